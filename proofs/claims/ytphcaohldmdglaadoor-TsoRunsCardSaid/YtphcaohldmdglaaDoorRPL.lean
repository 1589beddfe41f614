/-
  Walks of functions of the program, and what the laws need of them.
-/
import Derived.Test.YtphcaohldmdglaaDoorRPK
set_option linter.all false
set_option linter.unusedSimpArgs false
set_option linter.unusedVariables false
set_option linter.unnecessarySimpa false
namespace Go.Proofs.YtphcaohldmdglaaDoor
set_option maxRecDepth 20000
open Go Go.Proofs.YtphcaohldmdglaaDoor.V Go.Proofs
def invRuns {p : Prg} {m0 : Nat} {s0 : State} {R0 : List Rg} (_ : mQ p m0 (s0, R0)) (row : List (Int × Bool)) (m : Nat) (env : TEnv) (σ : TS) : Prop :=
  ∃ a b, row = a ++ b ∧ m = b.length ∧ env = [(8, .p 0 0), (9, .p (4 + 2 * R0.length) 0), (10, .lst 2 (row.map cPick)), (11, tI (cntT p (s0, R0) a)), (12, tI a.length)] ∧ σ = ⟨tsM p s0 R0 0 ++ tsM p (runT p (s0, R0) a).1 (runT p (s0, R0) a).2 (4 + 2 * R0.length), 60⟩
section
attribute [local irreducible] TwS TwR thenT inBlockT retT nextW localW loadedW swapW Rg.push Rg.pop tsoW doR
set_option maxHeartbeats 20000000 in
theorem tsoRuns (l : List (List Act)) (hl : ∀ r ∈ l, ∀ a ∈ r, inR a.n) (picks : List Int) (raw : List (Int × Bool)) : Pure prog Tabs n_law_TsoRuns [cActs l, rwI picks, .lst 2 (raw.map cPick)] (tB true) := by
  obtain ⟨p, ho, hc, hn, c1, h3, hq, _⟩ := book_sc l hl
  have hth : (p.threads.map cTh).length = p.threads.length := List.length_map ..
  have hrw : (raw.map cPick).length = raw.length := List.length_map ..
  have hq0 := beginM_ok hq
  have c2 := tnew_own p ho hc (start_okS hc) rfl h3
  have c3 := alive_spec
  have c4 := picks_own (G := Tabs) picks (p.threads.map cTh).length 60 (by omega) (by decide)
  have hpl := picksF_len picks (p.threads.map cTh).length 60
  generalize picksF picks (p.threads.map cTh).length 60 = pk at c4 hpl
  have hR0 : (beginM p).2.length ≤ 3 := by show (List.replicate _ _).length ≤ 3; rw [List.length_replicate]; exact h3
  generalize hqe : beginM p = q0 at *
  obtain ⟨s0, R0⟩ := q0
  by_cases hraw : raw.length > 10
  · have hg : decide (((raw.map cPick).length : Int) > 10) = true := decide_eq_true (by omega)
    rcases rows3 hR0 with rfl | ⟨_, rfl⟩ | ⟨_, _, rfl⟩ | ⟨_, _, _, rfl⟩
    all_goals
      refine Pure.of mixedOk (fn := f_law_TsoRuns) (by kernel_rfl) (by kernel_rfl) ok_law_TsoRuns rfl fun C hP hG hp => goF ?_; simp only [fs_law_TsoRuns, targEnv, Nat.zero_add, Nat.reduceAdd]
      repeat' (first | refine goR rfl ?_ | refine goS rfl ?_ | refine tret1 rfl ?_ | refine tretN rfl ?_ | refine tr_guard_y rfl rfl ?_ | refine tr_guard_n rfl rfl ?_ | refine ts_cond_t rfl rfl ?_ | refine ts_cond_f rfl rfl ?_ | refine tr_callA rfl (by rw [hP]; exact c1 _) rfl ?_ | refine tr_mcallX hP hG (c2) rfl rfl rfl rfl rfl rfl rfl rfl rfl rfl rfl rfl ?_ | refine tr_callA rfl (by rw [hP, hG]; exact c3) rfl ?_ | refine ts_cond_t rfl hg ?_ | fail)
      exact .fr rfl
  · have hg : decide (((raw.map cPick).length : Int) > 10) = false := decide_eq_false (by omega)
    have hrow : ((pk ++ raw).map cPick) = pk.map cPick ++ raw.map cPick := List.map_append ..
    have hrl : (pk ++ raw).length ≤ 70 := by rw [List.length_append]; omega
    have hfin := hq0.run hc hn (pk ++ raw)
    have c5 := trun_own p ho hc hn (s0, R0) hq0 (pk ++ raw) (by omega) h3
    have c6 := tstate_own (G := Tabs) p (runT p (s0, R0) (pk ++ raw)) hfin (by omega) (by have := hfin.memLen hc; omega) h3
    have hok := hfin.okS hc (by omega) (by omega)
    have c7 := sameSt_spec (G := Tabs) (runT p (s0, R0) (pk ++ raw)).1 hok
    have hcl := cntT_le p (pk ++ raw) (s0, R0)
    generalize hrow2 : pk ++ raw = row at *
    obtain ⟨qf, hqf⟩ : ∃ qf, runT p (s0, R0) row = qf := ⟨_, rfl⟩
    rw [hqf] at c5 c6 c7 hfin hok
    obtain ⟨sf, Rf⟩ := qf
    simp only at c5 c6 c7
    rcases rows3 hR0 with rfl | ⟨_, rfl⟩ | ⟨_, _, rfl⟩ | ⟨_, _, _, rfl⟩
    all_goals
      refine Pure.of mixedOk (fn := f_law_TsoRuns) (by kernel_rfl) (by kernel_rfl) ok_law_TsoRuns rfl fun C hP hG hp => goF ?_; simp only [fs_law_TsoRuns, targEnv, Nat.zero_add, Nat.reduceAdd]
      repeat' (first | refine goR rfl ?_ | refine goS rfl ?_ | refine tret1 rfl ?_ | refine tretN rfl ?_ | refine tr_guard_y rfl rfl ?_ | refine tr_guard_n rfl rfl ?_ | refine ts_cond_t rfl rfl ?_ | refine ts_cond_f rfl rfl ?_ | refine tr_callA rfl (by rw [hP]; exact c1 _) rfl ?_ | refine tr_mcallX hP hG (c2) rfl rfl rfl rfl rfl rfl rfl rfl rfl rfl rfl rfl ?_ | refine ts_cond_f rfl hg ?_ | refine tr_mcallX hP hG (c4) rfl rfl rfl rfl rfl rfl rfl rfl rfl rfl rfl rfl ?_ | refine tr_appF rfl rfl (by rw [List.length_map]) (.inl rfl) (by simp only [List.length_map]; omega) rfl ?_ | fail)
      rw [← hrow]
      refine loopS (invRuns hq0 row) row.length (w_canon 60 [] [8, 9, 10, 11, 12] hp rfl rfl rfl rfl) ⟨[], row, rfl, rfl, rfl, rfl⟩ ?_
      rintro m1 env σ ⟨a, b, e, rfl, rfl, rfl⟩
      have hla : row.length = a.length + b.length := by rw [e, List.length_append]
      have hqa := hq0.run hc hn a
      cases b with
      | nil =>
        rw [List.length_nil] at hla
        rw [List.append_nil] at e
        subst e
        have hlt : decide ((row.length : Int) < ((row.map cPick).length : Int)) = false := decide_eq_false (by rw [List.length_map]; omega)
        obtain ⟨_, _, e1, hl0, hR3⟩ := hfin.split hq0 h3
        cases e1
        rw [hqf]
        rcases rows3 hR3 with rfl | ⟨_, rfl⟩ | ⟨_, _, rfl⟩ | ⟨_, _, _, rfl⟩
        all_goals first | (exfalso; simp at hl0; done) | skip
        all_goals
          repeat' (first | refine goR rfl ?_ | refine goS rfl ?_ | refine tret1 rfl ?_ | refine tretN rfl ?_ | refine tr_guard_y rfl rfl ?_ | refine tr_guard_n rfl rfl ?_ | refine ts_cond_t rfl rfl ?_ | refine ts_cond_f rfl rfl ?_ | refine ts_cond_f rfl hlt ?_ | refine tr_mcallX hP hG (c5) rfl rfl rfl rfl rfl rfl rfl rfl rfl rfl rfl rfl ?_ | refine tr_mcallX hP hG (c6) rfl rfl rfl rfl rfl rfl rfl rfl rfl rfl rfl rfl ?_ | refine tr_callV hP hG (c7) rfl (by (repeat' first | exact FzL.nil | refine FzL.cons ?_ ?_ | exact Fz.fr rfl | exact Fz.nil _ | exact Fz.s _ _ _ _ _ _ rfl (List.length_map ..).symm | exact Fz.s _ _ _ _ _ _ rfl rfl | refine Fz.pL rfl ?_ | refine Fz.aggL ?_); first | done | fail) rfl ?_ | refine tr_callA rfl (by rw [hP, hG]; exact c3) rfl ?_ | ((first | refine tg_split rfl (fun h => ?_) (fun h => ?_) | refine ts_cond rfl (fun h => ?_) (fun h => ?_)) <;> (try simp only [decide_eq_true_eq, decide_eq_false_iff_not, Bool.not_eq_true', Bool.not_eq_false', Bool.not_true, Bool.not_false, Bool.not_not, beq_iff_eq, Bool.not_eq_true, Bool.not_eq_false] at h) <;> try (exfalso; first | exact h trivial | exact h rfl; done)) | fail)
          exact .fr rfl
      | cons x b =>
        have hx : row[a.length]? = some x := by rw [e]; exact ix
        simp only [List.length_cons] at hla
        have hqa2 := hqa.step hc hn x
        have c := tdo_own p ho hc _ hqa (by omega) h3 x.1 x.2
        have hlt : decide ((a.length : Int) < ((row.map cPick).length : Int)) = true := decide_eq_true (by rw [List.length_map]; omega)
        have hw1 : IntKind.i64.wrap ((a.length : Int) + 1) = ((a ++ [x]).length : Int) := by rw [w64 (by omega), List.length_append]; rfl
        have hw2 : ∀ n : Nat, n ≤ a.length → IntKind.i64.wrap ((n : Int) + 1) = ((n + 1 : Nat) : Int) := fun n hn => by rw [w64 (by omega)]; rfl
        obtain ⟨s1, R1, hq1, hl1, hR1⟩ := hqa.split hq0 h3
        obtain ⟨s2, R2, hq2, hl2, hR2⟩ := hqa2.split hqa h3
        rw [show (x.1, x.2) = x from rfl, hq2] at c
        rw [hq1] at c hl2
        simp only at c hl2
        rw [hq1]
        cases hbb : (tsoW p s1 x.1 x.2).2
        all_goals
          rw [hbb] at c
          rcases rows33 hR1 hl2 with ⟨rfl, rfl⟩ | ⟨_, _, rfl, rfl⟩ | ⟨_, _, _, _, rfl, rfl⟩ | ⟨_, _, _, _, _, _, rfl, rfl⟩
        all_goals first | (exfalso; simp at hl1; done) | skip
        all_goals
          repeat' (first | refine goR rfl ?_ | refine goS rfl ?_ | refine tret1 rfl ?_ | refine tretN rfl ?_ | refine tr_guard_y rfl rfl ?_ | refine tr_guard_n rfl rfl ?_ | refine ts_cond_t rfl rfl ?_ | refine ts_cond_f rfl rfl ?_ | refine ts_cond_t rfl hlt ?_ | refine tr_light (tl_ixm rfl rfl rfl hx) ?_ | refine tr_mcallX hP hG (c) rfl rfl rfl rfl rfl rfl rfl rfl rfl rfl rfl rfl ?_ | fail)
          refine again (m' := b.length) (Nat.lt_succ_self _) (w_canon 60 [] [8, 9, 10, 11, 12] hp rfl rfl rfl rfl) ⟨a ++ [x], b, by rw [e]; simp, rfl, ?_, by rw [runT_snoc, hq2]; rfl⟩
          rw [cntT_snoc, hq1, hbb]
          first | rw [hw1, hw2 _ (cntT_le _ _ _)] | rw [hw1]
          rfl
end
end Go.Proofs.YtphcaohldmdglaaDoor
