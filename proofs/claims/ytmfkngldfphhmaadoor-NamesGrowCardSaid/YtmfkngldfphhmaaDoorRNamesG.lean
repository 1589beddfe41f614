/-
  Walks of functions of the program, and what the laws need of them.
-/
import Derived.Test.YtmfkngldfphhmaaDoorRNamesF
set_option linter.all false
set_option linter.unusedSimpArgs false
set_option linter.unusedVariables false
set_option linter.unnecessarySimpa false
namespace Go.Proofs.YtmfkngldfphhmaaDoor
open Go Go.Proofs.YtmfkngldfphhmaaDoor.V Go.Proofs

def rep (one : ByteArray) : Nat → ByteArray
  | 0 => bs []
  | i + 1 => rep one i ++ one
theorem rep_succ (one : ByteArray) (i : Nat) : rep one (i + 1) = rep one i ++ one := rfl
theorem rep_size (one : ByteArray) : ∀ i, (rep one i).size = i * one.size
  | 0 => by simp [rep]; rfl
  | i + 1 => by rw [rep, ByteArray.size_append, rep_size one i, Nat.add_mul]; omega
def onesL : List ByteArray := [bs [113], bs [90], bs [195, 169], bs [240, 159, 152, 128]]
theorem long_all : ((List.range 24).all fun n => onesL.all fun one => rightB (rep one n) == decide (1 ≤ n ∧ n ≤ 16)) = true := by kernel_rfl

section
attribute [local irreducible] TwS TwR thenT inBlockT retT idx idxI opOf spots letter digit wordB okAt okAll rightB regT opT short rep

theorem namesLong (a b : Int) : Pure prog Tabs n_law_NamesLong [tI a, tI b] (tB true) := by
  obtain ⟨n, hn, hn24⟩ := mod_nat a 24 (by decide)
  obtain ⟨q, hq, hq4⟩ := mod_nat b 4 (by decide)
  have p1 := fun G => pick_spec (G := G) a 23 (by decide)
  have p2 := fun G => pick_spec (G := G) b 3 (by decide)
  simp only [Nat.reduceAdd, hn] at p1
  simp only [Nat.reduceAdd, hq] at p2
  have hg : onesL[q]? = some onesL[q] := List.getElem?_eq_getElem hq4
  have hm : onesL[q] ∈ onesL := List.getElem_mem _
  generalize onesL[q] = one at hg hm
  have hos : one.size ≤ 4 := by
    have : (onesL.all fun s => decide (s.size ≤ 4)) = true := by kernel_rfl
    simpa using List.all_eq_true.1 this one hm
  have f1 := List.all_eq_true.1 (List.all_eq_true.1 long_all n (List.mem_range.2 hn24)) one hm
  rw [beq_iff_eq] at f1
  have hsz : ∀ i, i ≤ n → (rep one i).size ≤ 1000 := fun i hi => by
    rw [rep_size]
    have := Nat.mul_le_mul hi hos
    omega
  have c1 := right_spec (rep one n) (by have := hsz n (by omega); omega)
  have hrow : ([[tS (bs [113])], [tS (bs [90])], [tS (bs [195, 169])], [tS (bs [240, 159, 152, 128])]] : List (List TV))[q]? = some [tS one] := by
    have : ([[tS (bs [113])], [tS (bs [90])], [tS (bs [195, 169])], [tS (bs [240, 159, 152, 128])]] : List (List TV)) = onesL.map fun s => [tS s] := rfl
    rw [this, List.getElem?_map, hg]; rfl
  refine Pure.of mixedOk (fn := f_law_NamesLong) rfl (by kernel_rfl) ok_law_NamesLong rfl fun C hP hG hp => ?_
  simp only [fs_law_NamesLong, targEnv, Nat.zero_add, Nat.reduceAdd]
  repeat' (first | refine ts_seq (fun K hK hW => ?_) | refine ts_reg ?_ | refine tr_nil ?_ | refine tr_ev rfl ?_ | refine use_K (by assumption) ?_ | refine tr_guard_u rfl ?_ | refine tr_guard_y rfl rfl ?_ | refine tr_guard_n rfl rfl ?_ | refine tr_alloc rfl ?_ | refine tr_store rfl rfl rfl rfl rfl rfl rfl ?_ | refine ts_cond_t rfl rfl ?_ | refine ts_cond_f rfl rfl ?_ | refine ts_nop ?_ | refine ts_block ?_ | refine ts_exit ?_ | refine ts_ret ?_ | refine th_exit ?_ | refine th_ret ?_ | refine bl_normal ?_ | refine bl_ret ?_ | refine bl_hit ?_ | refine bl_miss rfl ?_ | refine tret_of (.inr rfl) rfl ?_ | refine tr_call rfl (by rw [hP]; exact p1 _) (.inl rfl) ?_ | refine tr_call rfl (by rw [hP]; exact p2 _) (.inl rfl) ?_ | refine tr_light (tl_ixo (m := q) rfl rfl rfl hq4) ?_ | refine tr_light (tl_ldE rfl rfl hrow rfl) ?_ | fail)
  refine ts_loop (fun m env σ => ∃ i : Nat, m = n - i ∧ i ≤ n ∧ env = [(0, tI n), (5, tS one), (6, tS (rep one i)), (7, tI i)] ∧ σ = ⟨[], 0⟩) n ?_ ⟨0, rfl, by omega, rfl, rfl⟩ ?_
  · (refine w_ren [] rfl (by rw [hp]; intro j hj; cases hj) rfl ?_ ?_ <;> repeat' (first | exact .nil | exact .f _ rfl | exact .s _ _ _ _ _ _ rfl | exact .p _ _ _ rfl | exact .rows _ _ _ | exact .iter _ _ | exact RenL.nil _ | refine RenL.cons ?_ ?_ | refine .cells _ _ _ ?_ | refine .cons _ _ _ _ rfl ?_ ?_ | refine .cons _ _ _ _ _ rfl rfl ?_ ?_ | refine .rowsE ?_ | refine .sE rfl ?_ | exact .m _ _ rfl | refine .fE rfl ?_ | fail))
    all_goals first | rfl | (unfold rep; rfl)
  rintro m env σ ⟨i, rfl, hi, rfl, rfl⟩
  by_cases hlt : i < n
  · have hz := hsz i hi
    repeat' (first | refine ts_seq (fun K hK hW => ?_) | refine ts_reg ?_ | refine tr_nil ?_ | refine tr_ev rfl ?_ | refine use_K (by assumption) ?_ | refine tr_guard_u rfl ?_ | refine tr_guard_y rfl rfl ?_ | refine tr_guard_n rfl rfl ?_ | refine tr_alloc rfl ?_ | refine tr_store rfl rfl rfl rfl rfl rfl rfl ?_ | refine ts_cond_t rfl rfl ?_ | refine ts_cond_f rfl rfl ?_ | refine ts_nop ?_ | refine ts_block ?_ | refine ts_exit ?_ | refine ts_ret ?_ | refine th_exit ?_ | refine th_ret ?_ | refine bl_normal ?_ | refine bl_ret ?_ | refine bl_hit ?_ | refine bl_miss rfl ?_ | refine tret_of (.inr rfl) rfl ?_ | refine ts_cond_t rfl (decide_eq_true (by omega)) ?_ | refine tr_light (tl_sadd rfl rfl (by omega)) ?_ | fail)
    refine loop_again (m' := n - (i + 1)) (by omega) ?_ ⟨i + 1, rfl, by omega, rfl, rfl⟩
    (refine w_ren [] rfl (by rw [hp]; intro j hj; cases hj) rfl ?_ ?_ <;> repeat' (first | exact .nil | exact .f _ rfl | exact .s _ _ _ _ _ _ rfl | exact .p _ _ _ rfl | exact .rows _ _ _ | exact .iter _ _ | exact RenL.nil _ | refine RenL.cons ?_ ?_ | refine .cells _ _ _ ?_ | refine .cons _ _ _ _ rfl ?_ ?_ | refine .cons _ _ _ _ _ rfl rfl ?_ ?_ | refine .rowsE ?_ | refine .sE rfl ?_ | exact .m _ _ rfl | refine .fE rfl ?_ | fail))
    all_goals first | (rw [w64 (by omega)]; rfl) | (rw [rep_succ]; done) | (rw [rep_succ]; rfl)
  have hin : i = n := by omega
  subst hin
  by_cases hr : 1 ≤ i ∧ i ≤ 16
  · rw [decide_eq_true hr] at f1
    simp only [f1] at c1
    repeat' (first | refine ts_seq (fun K hK hW => ?_) | refine ts_reg ?_ | refine tr_nil ?_ | refine tr_ev rfl ?_ | refine use_K (by assumption) ?_ | refine tr_guard_u rfl ?_ | refine tr_guard_y rfl rfl ?_ | refine tr_guard_n rfl rfl ?_ | refine tr_alloc rfl ?_ | refine tr_store rfl rfl rfl rfl rfl rfl rfl ?_ | refine ts_cond_t rfl rfl ?_ | refine ts_cond_f rfl rfl ?_ | refine ts_nop ?_ | refine ts_block ?_ | refine ts_exit ?_ | refine ts_ret ?_ | refine th_exit ?_ | refine th_ret ?_ | refine bl_normal ?_ | refine bl_ret ?_ | refine bl_hit ?_ | refine bl_miss rfl ?_ | refine tret_of (.inr rfl) rfl ?_ | refine ts_cond_f rfl (decide_eq_false (by omega)) ?_ | refine tr_call rfl (by rw [hP, hG]; exact c1) (.inl rfl) ?_ | refine tr_light (tl_eqb (by rw [hP]; exact ut_bool) rfl rfl) ?_ | refine tr_call rfl (by rw [hP, hG]; exact alive_spec) (.inl rfl) ?_ | (refine tg_split rfl (fun h => ?_) (fun h => ?_) <;> (try simp only [decide_eq_true_eq, decide_eq_false_iff_not, Bool.not_eq_true', Bool.not_eq_false', Bool.not_true, Bool.not_false, Bool.not_not, beq_iff_eq, Bool.not_eq_true, Bool.not_eq_false] at h) <;> try (exfalso; (first | omega | (simp at h; done) | (simp at h; omega)); done)) | (refine ts_cond rfl (fun h => ?_) (fun h => ?_) <;> (try simp only [decide_eq_true_eq, decide_eq_false_iff_not, Bool.not_eq_true', Bool.not_eq_false', Bool.not_true, Bool.not_false, Bool.not_not, beq_iff_eq, Bool.not_eq_true, Bool.not_eq_false] at h) <;> try (exfalso; (first | omega | (simp at h; done) | (simp at h; omega)); done)) | fail)
    all_goals exact .fr rfl
  · rw [decide_eq_false hr] at f1
    simp only [f1] at c1
    repeat' (first | refine ts_seq (fun K hK hW => ?_) | refine ts_reg ?_ | refine tr_nil ?_ | refine tr_ev rfl ?_ | refine use_K (by assumption) ?_ | refine tr_guard_u rfl ?_ | refine tr_guard_y rfl rfl ?_ | refine tr_guard_n rfl rfl ?_ | refine tr_alloc rfl ?_ | refine tr_store rfl rfl rfl rfl rfl rfl rfl ?_ | refine ts_cond_t rfl rfl ?_ | refine ts_cond_f rfl rfl ?_ | refine ts_nop ?_ | refine ts_block ?_ | refine ts_exit ?_ | refine ts_ret ?_ | refine th_exit ?_ | refine th_ret ?_ | refine bl_normal ?_ | refine bl_ret ?_ | refine bl_hit ?_ | refine bl_miss rfl ?_ | refine tret_of (.inr rfl) rfl ?_ | refine ts_cond_f rfl (decide_eq_false (by omega)) ?_ | refine tr_call rfl (by rw [hP, hG]; exact c1) (.inl rfl) ?_ | refine tr_light (tl_eqb (by rw [hP]; exact ut_bool) rfl rfl) ?_ | refine tr_call rfl (by rw [hP, hG]; exact alive_spec) (.inl rfl) ?_ | (refine tg_split rfl (fun h => ?_) (fun h => ?_) <;> (try simp only [decide_eq_true_eq, decide_eq_false_iff_not, Bool.not_eq_true', Bool.not_eq_false', Bool.not_true, Bool.not_false, Bool.not_not, beq_iff_eq, Bool.not_eq_true, Bool.not_eq_false] at h) <;> try (exfalso; (first | omega | (simp at h; done) | (simp at h; omega)); done)) | (refine ts_cond rfl (fun h => ?_) (fun h => ?_) <;> (try simp only [decide_eq_true_eq, decide_eq_false_iff_not, Bool.not_eq_true', Bool.not_eq_false', Bool.not_true, Bool.not_false, Bool.not_not, beq_iff_eq, Bool.not_eq_true, Bool.not_eq_false] at h) <;> try (exfalso; (first | omega | (simp at h; done) | (simp at h; omega)); done)) | fail)
    all_goals exact .fr rfl
end
end Go.Proofs.YtmfkngldfphhmaaDoor
