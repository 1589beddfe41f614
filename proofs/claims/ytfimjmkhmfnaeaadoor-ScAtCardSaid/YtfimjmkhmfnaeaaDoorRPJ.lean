/-
  Walks of functions of the program, and what the laws need of them.
-/
import Derived.Test.YtfimjmkhmfnaeaaDoorRPI
import Derived.Test.YtfimjmkhmfnaeaaDoorRPG
set_option linter.all false
set_option linter.unusedSimpArgs false
set_option linter.unusedVariables false
set_option linter.unnecessarySimpa false
namespace Go.Proofs.YtfimjmkhmfnaeaaDoor
set_option maxRecDepth 20000
open Go Go.Proofs.YtfimjmkhmfnaeaaDoor.V Go.Proofs
def cActs (l : List (List Act)) : TV := .lst 1 (l.map fun r => [.lst 5 (r.map cAct)])
def stV (s : State) : List TV := [rwI s.mem, .lst 16 (s.thr.map cThr), .lst 1 [], tI s.lock]
theorem stQ_okS {p : Prg} (hc : checkC p = 0) {s : State} (h : stQ p s) (ht : s.thr.length = p.threads.length) (hb : s.bufs = []) : okS s := by
  obtain ⟨k1, k2, k3, _⟩ := check_syms hc
  have := start_len p.syms k3
  exact ⟨by rw [h.len]; omega, by omega, by rw [hb]; exact Nat.zero_le _, by rw [hb]; intro l hl; cases hl⟩
section
attribute [local irreducible] TwS TwR thenT inBlockT retT nextW localW loadedW swapW scW
variable {G : World → Prop}
theorem same_own (s : State) (ho : okS s) (hb : s.bufs = []) : Pure prog G n_ref2_Same [.agg (stV s), .agg (stV s)] (tB true) := by
  have := sameSt_spec (G := G) s ho
  rwa [show cState s = stV s by rw [cState, hb]; rfl] at this
theorem book_sc (l : List (List Act)) (hl : ∀ r ∈ l, ∀ a ∈ r, inR a.n) : ∃ p, okP p ∧ checkC p = 0 ∧ numsOk p ∧ (∀ G, Pure prog G n_book_Prog [cActs l, tI 3, tI 8] (.agg (cPrg p))) ∧ p.threads.length ≤ 3 ∧ stQ p (start0 p) ∧ p.syms = syms3 := by
  obtain ⟨h1, h2⟩ := prog_ok l 3 8 (by decide) (by decide)
  refine ⟨_, h2, h1, prog_nums hl 3 8, fun G => progO_spec l 3 8 (by decide) (by decide), ?_, start_q ?_, rfl⟩
  · show ((l.take 3).map (thO 8)).length ≤ 3
    rw [List.length_map, List.length_take]; omega
  · intro v hv
    have hv : v ∈ [(0 : Int), 1, 0, 0] := hv
    have : v = 0 ∨ v = 1 ∨ v = 0 := by simpa using hv
    rcases this with rfl | rfl | rfl <;> (unfold inR; decide)
theorem scRuns (l : List (List Act)) (hl : ∀ r ∈ l, ∀ a ∈ r, inR a.n) (steps : List Int) (raw : Int) : Pure prog Tabs n_law_ScRuns [cActs l, rwI steps, tI raw] (tB true) := by
  obtain ⟨p, ho, hc, hn, c1, h3, hq, _⟩ := book_sc l hl
  have hth : (p.threads.map cTh).length = p.threads.length := List.length_map ..
  have c2 := new_own p ho hc (start_okS hc) rfl
  have c3 := fun G => steps_own (G := G) steps (p.threads.map cTh).length 60 (by omega) (by decide)
  have hsl : (stepsF steps (p.threads.map cTh).length 60).length ≤ 60 := by rw [stepsF, List.length_map, List.length_take]; omega
  obtain ⟨st, hst⟩ : ∃ st, st = stepsF steps (p.threads.map cTh).length 60 := ⟨_, rfl⟩
  rw [← hst] at c3 hsl
  clear hst
  have hsm : (st.map fun n => [tI n]).length = st.length := List.length_map ..
  obtain ⟨row, hrow⟩ : ∃ row, row = st ++ [raw, -1] := ⟨_, rfl⟩
  have hrl : row.length = st.length + 2 := by rw [hrow, List.length_append]; rfl
  have c4 := run_own p ho hc hn (start0 p) hq (by show (List.replicate _ _).length ≤ _; rw [List.length_replicate]; omega) row (by omega)
  obtain ⟨e1, e2, e3, e4, e5⟩ := runF_ok hn hq row
  have c5 := state_own (G := Tabs) p (runF p (start0 p) row).1 (stQ_okS hc e1 (e2.trans (List.length_replicate ..)) e3) e3
  have c6 := fun G => same_own (G := G) (runF p (start0 p) row).1 (stQ_okS hc e1 (e2.trans (List.length_replicate ..)) e3) e3
  refine Pure.of mixedOk (fn := f_law_ScRuns) (by kernel_rfl) (by kernel_rfl) ok_law_ScRuns rfl fun C hP hG hp => goF ?_
  simp only [fs_law_ScRuns, targEnv, Nat.zero_add, Nat.reduceAdd]
  repeat' (first | refine goR rfl ?_ | refine goS rfl ?_ | refine tret1 rfl ?_ | refine tretN rfl ?_ | refine tr_guard_y rfl rfl ?_ | refine tr_guard_n rfl rfl ?_ | refine ts_cond_t rfl rfl ?_ | refine ts_cond_f rfl rfl ?_ | refine tr_callA rfl (by rw [hP]; exact c1 _) rfl ?_ | refine tr_mcallD hP hG (c2) rfl [] [(1, 0), (2, 1), (3, 2)] 4 rfl rfl rfl rfl rfl rfl rfl rfl rfl rfl ?_ | refine tr_mcallD hP hG (c2) rfl [] [(4, 0), (5, 1), (6, 2)] 7 rfl rfl rfl rfl rfl rfl rfl rfl rfl rfl ?_ | refine tr_mcallD hP hG (c3 _) rfl [] [(7, 0)] 8 rfl rfl rfl rfl rfl rfl rfl rfl rfl rfl ?_ | refine tr_append rfl rfl (by rw [List.length_map]) (.inr (.inr ⟨_, _, _, _, rfl, rfl, rfl⟩)) (by simp only [List.length_cons, List.length_nil]; omega) rfl ?_ | fail)
  refine loopS (fun m env σ => ∃ a b, row = a ++ b ∧ m = b.length ∧ env = [(8, .p 0 0), (9, .p 3 0), (10, rwI row), (11, tI (runF p (start0 p) a).2), (12, tI a.length)] ∧ σ = ⟨scM p (start0 p) 0 ++ scM p (runF p (start0 p) a).1 3, 6⟩) row.length
    ((w_freeze (d := 10) (k := 9) rfl rfl (.s _ true (by rw [List.length_append, List.length_map]))).trans ?_) ⟨[], row, rfl, rfl, rfl, rfl⟩ ?_
  · (refine w_ren [(0, 1), (1, 2), (2, 3), (3, 4), (4, 5), (5, 6)] rfl (by rw [hp]; decide) rfl ?_ ?_ <;> repeat' (first | exact .nil | exact .f _ rfl | exact .s _ _ _ _ _ _ rfl | exact .p _ _ _ rfl | exact .rows _ _ _ | exact .iter _ _ | exact RenL.nil _ | refine RenL.cons ?_ ?_ | refine .cells _ _ _ ?_ | refine .cons _ _ _ _ rfl ?_ ?_ | refine .cons _ _ _ _ _ rfl rfl ?_ ?_ | refine .rowsE ?_ | refine .sE rfl ?_ | exact .m _ _ rfl | refine .fE rfl ?_ | exact rnT_ok rfl | exact RenO.mapB _ | exact RenO.mapB [] | fail))
    rw [hrow, rwI, List.map_append]; rfl
  rintro m env σ ⟨a, b, e, rfl, rfl, rfl⟩
  have hla : row.length = a.length + b.length := by rw [e, List.length_append]
  have hmr : (row.map fun n => [tI n]).length = row.length := List.length_map ..
  cases b with
  | nil =>
    rw [List.length_nil] at hla
    rw [List.append_nil] at e
    subst e
    repeat' (first | refine goR rfl ?_ | refine goS rfl ?_ | refine tret1 rfl ?_ | refine tretN rfl ?_ | refine tr_guard_y rfl rfl ?_ | refine tr_guard_n rfl rfl ?_ | refine ts_cond_t rfl rfl ?_ | refine ts_cond_f rfl rfl ?_ | refine ts_cond_f rfl (decide_eq_false (by omega)) ?_ | refine tr_mcallD hP hG (c4) rfl [(0, 0), (1, 1), (2, 2)] [(0, 0), (1, 1), (2, 2)] 9 rfl rfl rfl rfl rfl rfl rfl rfl rfl rfl ?_ | refine tr_mcallD hP hG (c5) rfl [(0, 0), (1, 1), (2, 2)] [(0, 0), (1, 1), (2, 2), (12, 3), (13, 4)] 14 rfl rfl rfl rfl rfl rfl rfl rfl rfl rfl ?_ | refine tr_mcallD hP hG (c5) rfl [(0, 3), (1, 4), (2, 5)] [(3, 0), (4, 1), (5, 2), (17, 3), (18, 4)] 19 rfl rfl rfl rfl rfl rfl rfl rfl rfl rfl ?_ | refine tr_callL rfl (.cons (.aggL (.cons (.s 12 1 _ true _ _ rfl (by rw [List.length_map])) (.cons (.s 13 16 _ true _ _ rfl (by rw [List.length_map])) (.cons (.nil 1) (.cons (.fr rfl) .nil))))) (.cons (.aggL (.cons (.s 17 1 _ true _ _ rfl (by rw [List.length_map])) (.cons (.s 18 16 _ true _ _ rfl (by rw [List.length_map])) (.cons (.nil 1) (.cons (.fr rfl) .nil))))) .nil)) (by rw [hP]; exact c6 _) rfl ?_ | refine tr_callA rfl (by rw [hP, hG]; exact alive_spec) rfl ?_ | ((first | refine tg_split rfl (fun h => ?_) (fun h => ?_) | refine ts_cond rfl (fun h => ?_) (fun h => ?_)) <;> (try simp only [decide_eq_true_eq, decide_eq_false_iff_not, Bool.not_eq_true', Bool.not_eq_false', Bool.not_true, Bool.not_false, Bool.not_not, beq_iff_eq, Bool.not_eq_true, Bool.not_eq_false] at h) <;> try (exfalso; first | exact h rfl | exact h trivial; done)) | fail)
    exact .fr rfl
  | cons x b =>
    have hx : row[a.length]? = some x := by rw [e]; exact ix
    simp only [List.length_cons] at hla
    obtain ⟨k1, k2, k3, k4, k5⟩ := runF_ok hn hq a
    have c := step_own p ho hc (runF p (start0 p) a).1 k1 (by rw [k2]; show (List.replicate _ _).length ≤ _; rw [List.length_replicate]; omega) x
    have hs := runF_snoc p (start0 p) a x
    generalize runF p (start0 p) a = q at c hs k5
    cases hb : (scW p q.1 x).2 with
    | false =>
      rw [hb] at c
      rw [hb, if_neg (by decide)] at hs
      repeat' (first | refine goR rfl ?_ | refine goS rfl ?_ | refine tret1 rfl ?_ | refine tretN rfl ?_ | refine tr_guard_y rfl rfl ?_ | refine tr_guard_n rfl rfl ?_ | refine ts_cond_t rfl rfl ?_ | refine ts_cond_f rfl rfl ?_ | refine ts_cond_t rfl (decide_eq_true (by omega)) ?_ | refine tr_light (tl_ixm rfl rfl rfl hx) ?_ | refine tr_mcallD hP hG (c) rfl [(0, 3), (1, 4), (2, 5)] [(3, 0), (4, 1), (5, 2)] 9 rfl rfl rfl rfl rfl rfl rfl rfl rfl rfl ?_ | fail)
      refine again (m' := b.length) (Nat.lt_succ_self _) ?_ ⟨a ++ [x], b, by rw [e]; simp, rfl, by rw [hs], by rw [hs]⟩
      (refine w_ren [(0, 0), (1, 1), (2, 2), (3, 3), (4, 4), (5, 5)] rfl (by rw [hp]; decide) rfl ?_ ?_ <;> repeat' (first | exact .nil | exact .f _ rfl | exact .s _ _ _ _ _ _ rfl | exact .p _ _ _ rfl | exact .rows _ _ _ | exact .iter _ _ | exact RenL.nil _ | refine RenL.cons ?_ ?_ | refine .cells _ _ _ ?_ | refine .cons _ _ _ _ rfl ?_ ?_ | refine .cons _ _ _ _ _ rfl rfl ?_ ?_ | refine .rowsE ?_ | refine .sE rfl ?_ | exact .m _ _ rfl | refine .fE rfl ?_ | exact rnT_ok rfl | exact RenO.mapB _ | exact RenO.mapB [] | fail))
      all_goals (rw [w64 (by omega), List.length_append, List.length_singleton]; rfl)
    | true =>
      rw [hb] at c
      rw [hb, if_pos rfl] at hs
      repeat' (first | refine goR rfl ?_ | refine goS rfl ?_ | refine tret1 rfl ?_ | refine tretN rfl ?_ | refine tr_guard_y rfl rfl ?_ | refine tr_guard_n rfl rfl ?_ | refine ts_cond_t rfl rfl ?_ | refine ts_cond_f rfl rfl ?_ | refine ts_cond_t rfl (decide_eq_true (by omega)) ?_ | refine tr_light (tl_ixm rfl rfl rfl hx) ?_ | refine tr_mcallD hP hG (c) rfl [(0, 3), (1, 4), (2, 5)] [(3, 0), (4, 1), (5, 2)] 9 rfl rfl rfl rfl rfl rfl rfl rfl rfl rfl ?_ | fail)
      refine again (m' := b.length) (Nat.lt_succ_self _) ?_ ⟨a ++ [x], b, by rw [e]; simp, rfl, by rw [hs], by rw [hs]⟩
      (refine w_ren [(0, 0), (1, 1), (2, 2), (3, 3), (4, 4), (5, 5)] rfl (by rw [hp]; decide) rfl ?_ ?_ <;> repeat' (first | exact .nil | exact .f _ rfl | exact .s _ _ _ _ _ _ rfl | exact .p _ _ _ rfl | exact .rows _ _ _ | exact .iter _ _ | exact RenL.nil _ | refine RenL.cons ?_ ?_ | refine .cells _ _ _ ?_ | refine .cons _ _ _ _ rfl ?_ ?_ | refine .cons _ _ _ _ _ rfl rfl ?_ ?_ | refine .rowsE ?_ | refine .sE rfl ?_ | exact .m _ _ rfl | refine .fE rfl ?_ | exact rnT_ok rfl | exact RenO.mapB _ | exact RenO.mapB [] | fail))
      · rw [w64 (by omega)]; rfl
      · rw [w64 (by omega), List.length_append, List.length_singleton]; rfl
end
end Go.Proofs.YtfimjmkhmfnaeaaDoor
