/-
  Walks of functions of the program, and what the laws need of them.
-/
import Derived.Test.YtfimjmkhmfnaeaaDoorRPH
set_option linter.all false
set_option linter.unusedSimpArgs false
set_option linter.unusedVariables false
set_option linter.unnecessarySimpa false
namespace Go.Proofs.YtfimjmkhmfnaeaaDoor
set_option maxRecDepth 20000
open Go Go.Proofs.YtfimjmkhmfnaeaaDoor.V Go.Proofs
section
attribute [local irreducible] TwS TwR thenT inBlockT retT nextW localW loadedW swapW scW
theorem scNil (p : Prg) (t : Int) : Pure prog Tabs n_law_ScNil [.agg (cPrg p), tI t] (tB true) := by
  have g1 := fun G => great_spec (G := G) p
  have d1 := fun G => step_nil (G := G) t
  have d2 := fun G => run_nil (G := G) t t
  have d3 := fun G => stateM_nil (G := G)
  have d4 := fun G => copyM_nil (G := G)
  have d5 := fun G => sameSt_spec (G := G) zSt ⟨by decide, by decide, by decide, fun s hs => by cases hs⟩
  refine Pure.of mixedOk (fn := f_law_ScNil) (by kernel_rfl) (by kernel_rfl) ok_law_ScNil rfl fun C hP hG hp => goF ?_
  simp only [fs_law_ScNil, targEnv, Nat.zero_add, Nat.reduceAdd]
  cases hg : greatP p with
  | true =>
    rw [hg] at g1
    repeat' (first | refine goR rfl ?_ | refine goS rfl ?_ | refine tret1 rfl ?_ | refine tretN rfl ?_ | refine tr_guard_y rfl rfl ?_ | refine tr_guard_n rfl rfl ?_ | refine ts_cond_t rfl rfl ?_ | refine ts_cond_f rfl rfl ?_ | refine tr_callA rfl (by rw [hP]; exact g1 _) rfl ?_ | refine tr_callA rfl (by rw [hP, hG]; exact alive_spec) rfl ?_ | fail)
    exact .fr rfl
  | false =>
    rw [hg] at g1
    have hop := great_ok hg
    have g3 := check_spec2 p hop
    by_cases hcp : checkC p = 0
    · have g2 := new_own p hop hcp (start_okS hcp) rfl
      rw [hcp] at g3
      repeat' (first | refine goR rfl ?_ | refine goS rfl ?_ | refine tret1 rfl ?_ | refine tretN rfl ?_ | refine tr_guard_y rfl rfl ?_ | refine tr_guard_n rfl rfl ?_ | refine ts_cond_t rfl rfl ?_ | refine ts_cond_f rfl rfl ?_ | refine tr_callA rfl (by rw [hP]; exact g1 _) rfl ?_ | refine tr_mcallD hP hG (g2) rfl [] [(1, 0), (2, 1), (3, 2)] 4 rfl rfl rfl rfl rfl rfl rfl rfl rfl rfl ?_ | refine tr_callA rfl (by rw [hP, hG]; exact g3) rfl ?_ | refine tr_light (tl_eqb (by rw [hP]; exact ut_bool) rfl rfl) ?_ | refine tr_callA rfl (by rw [hP]; exact d1 _) rfl ?_ | refine tr_callL rfl (.cons (.fr rfl) (.cons (.s 4 1 2 true _ ty_int rfl rfl) .nil)) (by rw [hP]; exact d2 _) rfl ?_ | refine tr_callA rfl (by rw [hP]; exact d3 _) rfl ?_ | refine tr_callA rfl (by rw [hP]; exact d4 _) rfl ?_ | refine tr_callL rfl (.cons (.fr rfl) (.cons (.aggL (.cons (.nil 1) (.cons (.nil 16) (.cons (.nil 1) (.cons (.fr rfl) .nil))))) .nil)) (by rw [hP]; exact d5 _) rfl ?_ | refine tr_callA rfl (by rw [hP, hG]; exact alive_spec) rfl ?_ | fail)
      exact .fr rfl
    · have g2 := new_no p hop hcp
      generalize checkC p = k at g3 hcp
      have hk : decide (k = 0) = false := decide_eq_false hcp
      repeat' (first | refine goR rfl ?_ | refine goS rfl ?_ | refine tret1 rfl ?_ | refine tretN rfl ?_ | refine tr_guard_y rfl rfl ?_ | refine tr_guard_n rfl rfl ?_ | refine ts_cond_t rfl rfl ?_ | refine ts_cond_f rfl rfl ?_ | refine tr_callA rfl (by rw [hP]; exact g1 _) rfl ?_ | refine tr_callA rfl (by rw [hP, hG]; exact g2) rfl ?_ | refine tr_callA rfl (by rw [hP, hG]; exact g3) rfl ?_ | (refine tr_light (tl_eqb (by rw [hP]; exact ut_bool) rfl rfl) ?_; rw [hk]) | refine tr_callA rfl (by rw [hP]; exact d1 _) rfl ?_ | refine tr_callL rfl (.cons (.fr rfl) (.cons (.s 1 1 2 true _ ty_int rfl rfl) .nil)) (by rw [hP]; exact d2 _) rfl ?_ | refine tr_callA rfl (by rw [hP]; exact d3 _) rfl ?_ | refine tr_callA rfl (by rw [hP]; exact d4 _) rfl ?_ | refine tr_callL rfl (.cons (.fr rfl) (.cons (.aggL (.cons (.nil 1) (.cons (.nil 16) (.cons (.nil 1) (.cons (.fr rfl) .nil))))) .nil)) (by rw [hP]; exact d5 _) rfl ?_ | refine tr_callA rfl (by rw [hP, hG]; exact alive_spec) rfl ?_ | fail)
      exact .fr rfl
end
end Go.Proofs.YtfimjmkhmfnaeaaDoor
