/-
  Walks of functions of the program, and what the laws need of them.
-/
import Derived.Test.YtmfkngldfphhmaaDoorRNamesE
set_option linter.all false
set_option linter.unusedSimpArgs false
set_option linter.unusedVariables false
set_option linter.unnecessarySimpa false
namespace Go.Proofs.YtmfkngldfphhmaaDoor
open Go Go.Proofs.YtmfkngldfphhmaaDoor.V Go.Proofs

theorem back_reg : ((List.range 8).all fun n => idx regsL (regT (n : Int)) == some n && wordB (regT (n : Int)) && !rightB (regT (n : Int)) && (List.range 8).all fun k => decide (regT (k : Int) = regT (n : Int)) == decide ((n : Int) = (k : Int))) = true := by kernel_rfl
theorem back_op : ((List.range 14).all fun o => o == 10 || (opOf (opT ((o + 1 : Nat) : Int) 0) == (((o + 1 : Nat) : Int), (0 : Int), true) && wordB (opT ((o + 1 : Nat) : Int) 0) && !rightB (opT ((o + 1 : Nat) : Int) 0))) = true := by kernel_rfl
theorem back_jump : ((List.range 10).all fun q => opOf (opT 11 ((q + 1 : Nat) : Int)) == ((11 : Int), ((q + 1 : Nat) : Int), true) && wordB (opT 11 ((q + 1 : Nat) : Int)) && !rightB (opT 11 ((q + 1 : Nat) : Int))) = true := by kernel_rfl
theorem mod_nat (a : Int) (m : Nat) (hm : 0 < m) : ∃ n : Nat, a % (m : Int) = n ∧ n < m := ⟨(a % (m : Int)).toNat, by have := Int.emod_nonneg a (show (m : Int) ≠ 0 by omega); omega, by have := Int.emod_lt_of_pos a (show (0 : Int) < m by omega); have := Int.emod_nonneg a (show (m : Int) ≠ 0 by omega); omega⟩

section
attribute [local irreducible] TwS TwR thenT inBlockT retT idx idxI opOf spots letter digit wordB okAt okAll rightB regT opT short

theorem regT_size (r : Int) : (regT r).size ≤ 1000000000000 := by
  have : (regsL.all fun s => decide (s.size ≤ 1000000000000)) = true := by kernel_rfl
  unfold regT
  split
  · cases h : regsL[r.toNat]? with
    | none => simp; decide
    | some w => simpa using List.all_eq_true.1 this w (List.mem_of_getElem? h)
  · decide
theorem opT_size (r c : Int) : (opT r c).size ≤ 1000000000000 := by
  have h1 : (jumpsL.all fun s => decide (s.size ≤ 1000000000000)) = true := by kernel_rfl
  have h2 : (opsL.all fun s => decide (s.size ≤ 1000000000000)) = true := by kernel_rfl
  unfold opT
  split
  · cases h : jumpsL[(c - 1).toNat]? with
    | none => simp; decide
    | some w => simpa using List.all_eq_true.1 h1 w (List.mem_of_getElem? h)
  · split
    · cases h : opsL[(r - 1).toNat]? with
      | none => simp; decide
      | some w => simpa using List.all_eq_true.1 h2 w (List.mem_of_getElem? h)
    · decide

theorem namesBack (a b : Int) : Pure prog Tabs n_law_NamesBack [tI a, tI b] (tB true) := by
  obtain ⟨n, hn, hn8⟩ := mod_nat a 8 (by decide)
  obtain ⟨k, hk, hk8⟩ := mod_nat b 8 (by decide)
  obtain ⟨o, ho, ho14⟩ := mod_nat a 14 (by decide)
  obtain ⟨q, hq, hq10⟩ := mod_nat b 10 (by decide)
  have p1 := fun G => pick_spec (G := G) a 7 (by decide)
  have p2 := fun G => pick_spec (G := G) b 7 (by decide)
  have p3 := fun G => pick_spec (G := G) a 13 (by decide)
  have p4 := fun G => pick_spec (G := G) b 9 (by decide)
  simp only [Nat.reduceAdd, hn] at p1
  simp only [Nat.reduceAdd, hk] at p2
  simp only [Nat.reduceAdd, ho] at p3
  simp only [Nat.reduceAdd, hq] at p4
  have f1 := List.all_eq_true.1 back_reg n (List.mem_range.2 hn8)
  simp only [Bool.and_eq_true, beq_iff_eq, Bool.not_eq_true'] at f1
  obtain ⟨⟨⟨f1, f2⟩, f3⟩, f4⟩ := f1
  have f4 := List.all_eq_true.1 f4 k (List.mem_range.2 hk8)
  rw [beq_iff_eq] at f4
  have c1 := fun G => regText_spec (G := G) (n : Int)
  have c2 := fun G => regText_spec (G := G) (k : Int)
  have c3 := fun G => reg_spec (G := G) (regT (n : Int))
  have c4 := fun G => word_spec (G := G) (regT (n : Int))
  have c5 := right_spec (regT (n : Int)) (regT_size _)
  simp only [f1, Option.getD_some, Option.isSome_some] at c3
  simp only [f2] at c4
  simp only [f3] at c5
  have hw : IntKind.i64.wrap (1 + (o : Int)) = ((o + 1 : Nat) : Int) := by rw [w64 (by omega)]; omega
  have hw2 : IntKind.i64.wrap (1 + (q : Int)) = ((q + 1 : Nat) : Int) := by rw [w64 (by omega)]; omega
  refine Pure.of mixedOk (fn := f_law_NamesBack) rfl (by kernel_rfl) ok_law_NamesBack rfl fun C hP hG hp => ?_
  simp only [fs_law_NamesBack, targEnv, Nat.zero_add, Nat.reduceAdd]
  repeat' (first | refine ts_seq (fun K hK hW => ?_) | refine ts_reg ?_ | refine tr_nil ?_ | refine tr_ev rfl ?_ | refine use_K (by assumption) ?_ | refine tr_guard_u rfl ?_ | refine tr_guard_y rfl rfl ?_ | refine tr_guard_n rfl rfl ?_ | refine tr_alloc rfl ?_ | refine tr_store rfl rfl rfl rfl rfl rfl rfl ?_ | refine ts_cond_t rfl rfl ?_ | refine ts_cond_f rfl rfl ?_ | refine ts_nop ?_ | refine ts_block ?_ | refine ts_exit ?_ | refine ts_ret ?_ | refine th_exit ?_ | refine th_ret ?_ | refine bl_normal ?_ | refine bl_ret ?_ | refine bl_hit ?_ | refine bl_miss rfl ?_ | refine tret_of (.inr rfl) rfl ?_ | refine tr_call rfl (by rw [hP]; exact p1 _) (.inl rfl) ?_ | refine tr_call rfl (by rw [hP]; exact p2 _) (.inl rfl) ?_ | refine tr_call rfl (by rw [hP]; exact c1 _) (.inl rfl) ?_ | refine tr_call rfl (by rw [hP]; exact c2 _) (.inl rfl) ?_ | refine tr_call rfl (by rw [hP]; exact c3 _) (.inl rfl) ?_ | refine tr_call rfl (by rw [hP]; exact c4 _) (.inl rfl) ?_ | refine tr_call rfl (by rw [hP, hG]; exact c5) (.inl rfl) ?_ | refine tr_light (tl_neb (by rw [hP]; exact ut_bool) rfl rfl) ?_ | (refine tg_split rfl (fun h => ?_) (fun h => ?_) <;> (try simp only [decide_eq_true_eq, decide_eq_false_iff_not, Bool.not_eq_true', Bool.not_eq_false', Bool.not_true, Bool.not_false, Bool.not_not, beq_iff_eq, Bool.not_eq_true, Bool.not_eq_false] at h) <;> try (exfalso; (first | (rw [f4] at h; simp at h; done) | (simp at h; done)); done)) | (refine ts_cond rfl (fun h => ?_) (fun h => ?_) <;> (try simp only [decide_eq_true_eq, decide_eq_false_iff_not, Bool.not_eq_true', Bool.not_eq_false', Bool.not_true, Bool.not_false, Bool.not_not, beq_iff_eq, Bool.not_eq_true, Bool.not_eq_false] at h) <;> try (exfalso; (first | (rw [f4] at h; simp at h; done) | (simp at h; done)); done)) | fail)
  repeat' (first | refine ts_seq (fun K hK hW => ?_) | refine ts_reg ?_ | refine tr_nil ?_ | refine tr_ev rfl ?_ | refine use_K (by assumption) ?_ | refine tr_guard_u rfl ?_ | refine tr_guard_y rfl rfl ?_ | refine tr_guard_n rfl rfl ?_ | refine tr_alloc rfl ?_ | refine tr_store rfl rfl rfl rfl rfl rfl rfl ?_ | refine ts_cond_t rfl rfl ?_ | refine ts_cond_f rfl rfl ?_ | refine ts_nop ?_ | refine ts_block ?_ | refine ts_exit ?_ | refine ts_ret ?_ | refine th_exit ?_ | refine th_ret ?_ | refine bl_normal ?_ | refine bl_ret ?_ | refine bl_hit ?_ | refine bl_miss rfl ?_ | refine tret_of (.inr rfl) rfl ?_ | refine tr_call rfl (by rw [hP]; exact p3 _) (.inl rfl) ?_ | fail)
  rw [hw]
  by_cases h10 : o = 10
  · subst h10
    have g := List.all_eq_true.1 back_jump q (List.mem_range.2 hq10)
    simp only [Bool.and_eq_true, beq_iff_eq, Bool.not_eq_true'] at g
    obtain ⟨⟨g1, g2⟩, g3⟩ := g
    have d1 := fun G => opText_spec (G := G) 11 ((q + 1 : Nat) : Int)
    have d2 := fun G => op_spec (G := G) (opT 11 ((q + 1 : Nat) : Int))
    have d3 := fun G => word_spec (G := G) (opT 11 ((q + 1 : Nat) : Int))
    have d4 := right_spec (opT 11 ((q + 1 : Nat) : Int)) (opT_size _ _)
    simp only [g1] at d2
    simp only [g2] at d3
    simp only [g3] at d4
    repeat' (first | refine ts_seq (fun K hK hW => ?_) | refine ts_reg ?_ | refine tr_nil ?_ | refine tr_ev rfl ?_ | refine use_K (by assumption) ?_ | refine tr_guard_u rfl ?_ | refine tr_guard_y rfl rfl ?_ | refine tr_guard_n rfl rfl ?_ | refine tr_alloc rfl ?_ | refine tr_store rfl rfl rfl rfl rfl rfl rfl ?_ | refine ts_cond_t rfl rfl ?_ | refine ts_cond_f rfl rfl ?_ | refine ts_nop ?_ | refine ts_block ?_ | refine ts_exit ?_ | refine ts_ret ?_ | refine th_exit ?_ | refine th_ret ?_ | refine bl_normal ?_ | refine bl_ret ?_ | refine bl_hit ?_ | refine bl_miss rfl ?_ | refine tret_of (.inr rfl) rfl ?_ | refine tr_call rfl (by rw [hP]; exact p4 _) (.inl rfl) ?_ | fail)
    rw [hw2]
    repeat' (first | refine ts_seq (fun K hK hW => ?_) | refine ts_reg ?_ | refine tr_nil ?_ | refine tr_ev rfl ?_ | refine use_K (by assumption) ?_ | refine tr_guard_u rfl ?_ | refine tr_guard_y rfl rfl ?_ | refine tr_guard_n rfl rfl ?_ | refine tr_alloc rfl ?_ | refine tr_store rfl rfl rfl rfl rfl rfl rfl ?_ | refine ts_cond_t rfl rfl ?_ | refine ts_cond_f rfl rfl ?_ | refine ts_nop ?_ | refine ts_block ?_ | refine ts_exit ?_ | refine ts_ret ?_ | refine th_exit ?_ | refine th_ret ?_ | refine bl_normal ?_ | refine bl_ret ?_ | refine bl_hit ?_ | refine bl_miss rfl ?_ | refine tret_of (.inr rfl) rfl ?_ | refine tr_call rfl (by rw [hP]; exact d1 _) (.inl rfl) ?_ | refine tr_call rfl (by rw [hP]; exact d2 _) (.inl rfl) ?_ | refine tr_call rfl (by rw [hP]; exact d3 _) (.inl rfl) ?_ | refine tr_call rfl (by rw [hP, hG]; exact d4) (.inl rfl) ?_ | refine tr_call rfl (by rw [hP, hG]; exact alive_spec) (.inl rfl) ?_ | (refine tg_split rfl (fun h => ?_) (fun h => ?_) <;> (try simp only [decide_eq_true_eq, decide_eq_false_iff_not, Bool.not_eq_true', Bool.not_eq_false', Bool.not_true, Bool.not_false, Bool.not_not, beq_iff_eq, Bool.not_eq_true, Bool.not_eq_false] at h) <;> try (exfalso; (simp at h; done); done)) | (refine ts_cond rfl (fun h => ?_) (fun h => ?_) <;> (try simp only [decide_eq_true_eq, decide_eq_false_iff_not, Bool.not_eq_true', Bool.not_eq_false', Bool.not_true, Bool.not_false, Bool.not_not, beq_iff_eq, Bool.not_eq_true, Bool.not_eq_false] at h) <;> try (exfalso; (simp at h; done); done)) | fail)
    all_goals exact .fr rfl
  · have g := List.all_eq_true.1 back_op o (List.mem_range.2 ho14)
    simp only [Bool.or_eq_true, Bool.and_eq_true, beq_iff_eq, Bool.not_eq_true', h10, false_or] at g
    obtain ⟨⟨g1, g2⟩, g3⟩ := g
    have d1 := fun G => opText_spec (G := G) ((o + 1 : Nat) : Int) 0
    have d2 := fun G => op_spec (G := G) (opT ((o + 1 : Nat) : Int) 0)
    have d3 := fun G => word_spec (G := G) (opT ((o + 1 : Nat) : Int) 0)
    have d4 := right_spec (opT ((o + 1 : Nat) : Int) 0) (opT_size _ _)
    simp only [g1] at d2
    simp only [g2] at d3
    simp only [g3] at d4
    repeat' (first | refine ts_seq (fun K hK hW => ?_) | refine ts_reg ?_ | refine tr_nil ?_ | refine tr_ev rfl ?_ | refine use_K (by assumption) ?_ | refine tr_guard_u rfl ?_ | refine tr_guard_y rfl rfl ?_ | refine tr_guard_n rfl rfl ?_ | refine tr_alloc rfl ?_ | refine tr_store rfl rfl rfl rfl rfl rfl rfl ?_ | refine ts_cond_t rfl rfl ?_ | refine ts_cond_f rfl rfl ?_ | refine ts_nop ?_ | refine ts_block ?_ | refine ts_exit ?_ | refine ts_ret ?_ | refine th_exit ?_ | refine th_ret ?_ | refine bl_normal ?_ | refine bl_ret ?_ | refine bl_hit ?_ | refine bl_miss rfl ?_ | refine tret_of (.inr rfl) rfl ?_ | refine ts_cond_f rfl (decide_eq_false (by omega)) ?_ | refine tr_call rfl (by rw [hP]; exact d1 _) (.inl rfl) ?_ | refine tr_call rfl (by rw [hP]; exact d2 _) (.inl rfl) ?_ | refine tr_call rfl (by rw [hP]; exact d3 _) (.inl rfl) ?_ | refine tr_call rfl (by rw [hP, hG]; exact d4) (.inl rfl) ?_ | refine tr_call rfl (by rw [hP, hG]; exact alive_spec) (.inl rfl) ?_ | (refine tg_split rfl (fun h => ?_) (fun h => ?_) <;> (try simp only [decide_eq_true_eq, decide_eq_false_iff_not, Bool.not_eq_true', Bool.not_eq_false', Bool.not_true, Bool.not_false, Bool.not_not, beq_iff_eq, Bool.not_eq_true, Bool.not_eq_false] at h) <;> try (exfalso; (first | (simp at h; done) | (simp [h10] at h; done)); done)) | (refine ts_cond rfl (fun h => ?_) (fun h => ?_) <;> (try simp only [decide_eq_true_eq, decide_eq_false_iff_not, Bool.not_eq_true', Bool.not_eq_false', Bool.not_true, Bool.not_false, Bool.not_not, beq_iff_eq, Bool.not_eq_true, Bool.not_eq_false] at h) <;> try (exfalso; (first | (simp at h; done) | (simp [h10] at h; done)); done)) | fail)
    all_goals exact .fr rfl
end
end Go.Proofs.YtmfkngldfphhmaaDoor
