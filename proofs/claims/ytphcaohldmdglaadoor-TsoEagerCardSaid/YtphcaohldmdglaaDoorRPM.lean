/-
  Walks of functions of the program, and what the laws need of them.
-/
import Derived.Test.YtphcaohldmdglaaDoorRPK
import Derived.Test.YtphcaohldmdglaaDoorRPI
set_option linter.all false
set_option linter.unusedSimpArgs false
set_option linter.unusedVariables false
set_option linter.unnecessarySimpa false
namespace Go.Proofs.YtphcaohldmdglaaDoor
set_option maxRecDepth 20000
open Go Go.Proofs.YtphcaohldmdglaaDoor.V Go.Proofs
/-- Each step with its flush. -/
def mE (p : Prg) (q : MS) (t : Int) : MS := mW p (mW p q (t, false)) (t, true)
def runE (p : Prg) (q : MS) (l : List Int) : MS := l.foldl (mE p) q
theorem runE_snoc (p : Prg) (q : MS) (l : List Int) (t : Int) : runE p q (l ++ [t]) = mE p (runE p q l) t := by unfold runE; rw [List.foldl_append]; rfl
/-- All buffers are empty, and it is where the machine without buffers is. -/
structure eqQ (p : Prg) (m : Nat) (q : MS) (z : State) : Prop where
  mq : mQ p m q
  e : ∀ l ∈ q.1.bufs, l = []
  z : z = noB q.1
theorem eqQ.step {p : Prg} (hc : checkC p = 0) (hn : numsOk p) {m : Nat} {q : MS} {z : State} (h : eqQ p m q z) (t : Int) : eqQ p (m + 2) (mE p q t) (scW p z t).1 ∧ (tsoW p q.1 t false).2 = (scW p z t).2 := by
  obtain ⟨h1, h2, h3⟩ := h
  subst h3
  have hbl := h1.blen
  obtain ⟨e1, e2⟩ := eager (p := p) h2 hbl t
  have hm : (mE p q t).1 = (scW p q.1 t).1 := e2
  have hsc := scW_noB p q.1 t
  refine ⟨⟨(h1.step hc hn _).step hc hn _, ?_, ?_⟩, ?_⟩
  · rw [hm]
    obtain ⟨_, _, g3, _⟩ := scW_ok hn h1.st t
    rw [g3]; exact h2
  · rw [hsc, hm]
  · rw [hsc, e1]
theorem eqQ.run {p : Prg} (hc : checkC p = 0) (hn : numsOk p) : ∀ (l : List Int) {m : Nat} {q : MS} {z : State}, eqQ p m q z → eqQ p (m + 2 * l.length) (runE p q l) (runF p z l).1
  | [], _, _, _, h => h
  | t :: l, m, q, z, h => by
    have := eqQ.run hc hn l (h.step hc hn t).1
    rw [List.length_cons, show m + 2 * (l.length + 1) = m + 2 + 2 * l.length by omega]
    have e : (runF p z (t :: l)).1 = (runF p (scW p z t).1 l).1 := by
      unfold runF
      rw [List.foldl_cons]
      exact foldl_fst p l _ _
    rw [e]
    exact this
theorem eqQ.at {p : Prg} {m : Nat} {q : MS} {z : State} (h : eqQ p m q z) : drainedB q.1 = true := by
  unfold drainedB
  rw [List.all_eq_true.2 fun l hl => by rw [h.e l hl]; rfl, h.mq.lock]; rfl
def invEager {p : Prg} {m0 : Nat} {s0 : State} {R0 : List Rg} (_ : mQ p m0 (s0, R0)) (row : List Int) (m : Nat) (env : TEnv) (σ : TS) : Prop :=
  ∃ a b, row = a ++ b ∧ m = b.length ∧ env = [(6, .p 0 0), (7, .p (4 + 2 * R0.length) 0), (8, rwI row), (9, tI a.length)] ∧ σ = ⟨tsM p (runE p (s0, R0) a).1 (runE p (s0, R0) a).2 0 ++ scM p (noB (runE p (s0, R0) a).1) (4 + 2 * R0.length), 60⟩
section
attribute [local irreducible] TwS TwR thenT inBlockT retT nextW localW loadedW swapW Rg.push Rg.pop tsoW doR scW
set_option maxHeartbeats 20000000 in
theorem tsoEager (l : List (List Act)) (hl : ∀ r ∈ l, ∀ a ∈ r, inR a.n) (steps : List Int) : Pure prog Tabs n_law_TsoEager [cActs l, rwI steps] (tB true) := by
  obtain ⟨p, ho, hc, hn, c1, h3, hq, _⟩ := book_sc l hl
  have hth : (p.threads.map cTh).length = p.threads.length := List.length_map ..
  have hq0 := beginM_ok hq
  have hE0 : eqQ p 0 (beginM p) (start0 p) := ⟨hq0, fun l hl => (List.mem_replicate.1 hl).2, rfl⟩
  have c2 := tnew_own p ho hc (start_okS hc) rfl h3
  have c2' := new_own p ho hc (start_okS hc) rfl
  have c3 := alive_spec
  have c4 := steps_own (G := Tabs) steps (p.threads.map cTh).length 60 (by omega) (by decide)
  have hsl : (stepsF steps (p.threads.map cTh).length 60).length ≤ 60 := by rw [stepsF, List.length_map, List.length_take]; omega
  generalize stepsF steps (p.threads.map cTh).length 60 = row at c4 hsl
  have hsm : (row.map fun n => [tI n]).length = row.length := List.length_map ..
  have hR0 : (beginM p).2.length ≤ 3 := by show (List.replicate _ _).length ≤ 3; rw [List.length_replicate]; exact h3
  have hRn : (beginM p).2.length = p.threads.length := by show (List.replicate _ _).length = _; rw [List.length_replicate]
  rw [show start0 p = noB (beginM p).1 from rfl] at c2' hE0
  generalize hqe : beginM p = q0 at *
  obtain ⟨s0, R0⟩ := q0
  simp only at hRn
  rcases rows3 hR0 with rfl | ⟨_, rfl⟩ | ⟨_, _, rfl⟩ | ⟨_, _, _, rfl⟩
  all_goals
    refine Pure.of mixedOk (fn := f_law_TsoEager) (by kernel_rfl) (by kernel_rfl) ok_law_TsoEager rfl fun C hP hG hp => goF ?_; simp only [fs_law_TsoEager, targEnv, Nat.zero_add, Nat.reduceAdd]
    repeat' (first | refine goR rfl ?_ | refine goS rfl ?_ | refine tret1 rfl ?_ | refine tretN rfl ?_ | refine tr_guard_y rfl rfl ?_ | refine tr_guard_n rfl rfl ?_ | refine ts_cond_t rfl rfl ?_ | refine ts_cond_f rfl rfl ?_ | refine tr_callA rfl (by rw [hP]; exact c1 _) rfl ?_ | refine tr_mcallX hP hG (c2) rfl rfl rfl rfl rfl rfl rfl rfl rfl rfl rfl rfl ?_ | refine tr_mcallX hP hG (c2') rfl rfl rfl rfl rfl rfl rfl rfl rfl rfl rfl rfl ?_ | refine tr_mcallX hP hG (c4) rfl rfl rfl rfl rfl rfl rfl rfl rfl rfl rfl rfl ?_ | fail)
    refine ts_weak (w_frzS 8 rfl rfl hsm.symm) ?_
    refine loopS (invEager hq0 row) row.length (w_canon 60 [] [6, 7, 8, 9] hp rfl rfl rfl rfl) ⟨[], row, rfl, rfl, rfl, rfl⟩ ?_
    rintro m1 env σ ⟨a, b, e, rfl, rfl, rfl⟩
    have hla : row.length = a.length + b.length := by rw [e, List.length_append]
    have hEa := eqQ.run hc hn a hE0
    cases b with
    | nil =>
      rw [List.length_nil] at hla
      have hlt : decide ((a.length : Int) < ((row.map fun n => [tI n]).length : Int)) = false := decide_eq_false (by omega)
      obtain ⟨s1, R1, hq1, hl1, hR1⟩ := hEa.mq.split hq0 h3
      rw [hq1]
      rcases rows3 hR1 with rfl | ⟨_, rfl⟩ | ⟨_, _, rfl⟩ | ⟨_, _, _, rfl⟩
      all_goals first | (exfalso; simp at hl1; done) | skip
      all_goals
        repeat' (first | refine goR rfl ?_ | refine goS rfl ?_ | refine tret1 rfl ?_ | refine tretN rfl ?_ | refine tr_guard_y rfl rfl ?_ | refine tr_guard_n rfl rfl ?_ | refine ts_cond_t rfl rfl ?_ | refine ts_cond_f rfl rfl ?_ | refine ts_cond_f rfl hlt ?_ | refine tr_callA rfl (by rw [hP, hG]; exact c3) rfl ?_ | fail)
        exact .fr rfl
    | cons x b =>
      have hx : row[a.length]? = some x := by rw [e]; exact ix
      simp only [List.length_cons] at hla
      have hlt : decide ((a.length : Int) < ((row.map fun n => [tI n]).length : Int)) = true := decide_eq_true (by omega)
      have hw1 : IntKind.i64.wrap ((a.length : Int) + 1) = ((a ++ [x]).length : Int) := by rw [w64 (by omega), List.length_append]; rfl
      obtain ⟨hEb, hdn⟩ := hEa.step hc hn x
      have hz1 := hEa.z
      have hz2 := hEb.z
      have hmid := hEa.mq.step hc hn (x, false)
      have c5 := tdo_own p ho hc _ hEa.mq (by omega) h3 x false
      have c6 := tdo_own p ho hc _ hmid (by omega) h3 x true
      have c7 := tstate_own (G := Tabs) p _ hEb.mq (by omega) (by have := hEb.mq.memLen hc; omega) h3
      have hok := hEb.mq.okS hc (by omega) (by omega)
      have c8 := drained_spec (G := Tabs) _ hok
      rw [hEb.at] at c8
      have hq1' := hEa.mq.st
      have hqz : stQ p (noB (runE p (s0, _) a).1) := ⟨hq1'.len, hq1'.thr, hq1'.mem⟩
      have c9 := step_own p ho hc _ hqz (by have := hEa.mq.thr; show (runE p (s0, _) a).1.thr.length ≤ _; omega) x
      rw [hz1] at hdn hz2
      rw [hz2] at c9
      rw [← hdn] at c9
      have hokz : okS (noB (mE p (runE p (s0, _) a) x).1) := ⟨hok.1, hok.2.1, Nat.zero_le _, fun l hl => by cases hl⟩
      have c10 := state_own (G := Tabs) p _ hokz rfl
      have c11 := sameSt_spec (G := Tabs) _ hokz
      obtain ⟨s1, R1, hq1, hl1, hR1⟩ := hEa.mq.split hq0 h3
      obtain ⟨s2, R2, hq2, hl2, hR2⟩ := hmid.split hEa.mq h3
      obtain ⟨s3, R3, hq3, hl3, hR3⟩ := hEb.mq.split hmid h3
      have hmE : mE p (runE p (s0, _) a) x = (s3, R3) := hq3
      have hmE' : mW p (mW p (runE p (s0, _) a) (x, false)) (x, true) = (s3, R3) := hq3
      rw [hmE] at c7 c8 c9 c10 c11
      rw [hmE'] at c6
      rw [hq2] at c5 c6 hl3
      rw [hq1] at c5 c9 hl2
      simp only at c5 c6 c7 c8 c9 c10 c11 hl2 hl3
      rw [hq1]
      generalize (tsoW p s2 x true).2 = b2 at c6
      generalize (tsoW p s1 x false).2 = b1 at c5 c9
      have hbb : (!(b1 == b1)) = false := by cases b1 <;> rfl
      all_goals
        rcases rows33 hR1 hl2 with ⟨rfl, rfl⟩ | ⟨_, _, rfl, rfl⟩ | ⟨_, _, _, _, rfl, rfl⟩ | ⟨_, _, _, _, _, _, rfl, rfl⟩
      all_goals first | (exfalso; simp at hl1; done) | skip
      all_goals
        rcases rows3 hR3 with rfl | ⟨_, rfl⟩ | ⟨_, _, rfl⟩ | ⟨_, _, _, rfl⟩
      all_goals first | (exfalso; simp at hl3; done) | skip
      all_goals
        repeat' (first | refine goR rfl ?_ | refine goS rfl ?_ | refine tret1 rfl ?_ | refine tretN rfl ?_ | refine tr_guard_y rfl rfl ?_ | refine tr_guard_n rfl rfl ?_ | refine ts_cond_t rfl rfl ?_ | refine ts_cond_f rfl rfl ?_ | refine ts_cond_t rfl hlt ?_ | refine tr_light (tl_ixm rfl rfl rfl hx) ?_ | refine tr_mcallX hP hG (c5) rfl rfl rfl rfl rfl rfl rfl rfl rfl rfl rfl rfl ?_ | refine tr_mcallX hP hG (c9) rfl rfl rfl rfl rfl rfl rfl rfl rfl rfl rfl rfl ?_ | refine tr_mcallX hP hG (c6) rfl rfl rfl rfl rfl rfl rfl rfl rfl rfl rfl rfl ?_ | refine tr_mcallX hP hG (c7) rfl rfl rfl rfl rfl rfl rfl rfl rfl rfl rfl rfl ?_ | refine tr_callV hP hG (c8) rfl (by (repeat' first | exact FzL.nil | refine FzL.cons ?_ ?_ | exact Fz.fr rfl | exact Fz.nil _ | exact Fz.s _ _ _ _ _ _ rfl (List.length_map ..).symm | exact Fz.s _ _ _ _ _ _ rfl rfl | refine Fz.pL rfl ?_ | refine Fz.aggL ?_); first | done | fail) rfl ?_ | (refine tr_light (tl_neb (by rw [hP]; exact ut_bool) rfl rfl) ?_; rw [hbb]) | refine tr_mcallX hP hG (c10) rfl rfl rfl rfl rfl rfl rfl rfl rfl rfl rfl rfl ?_ | refine tr_callV hP hG (c11) rfl (by (repeat' first | exact FzL.nil | refine FzL.cons ?_ ?_ | exact Fz.fr rfl | exact Fz.nil _ | exact Fz.s _ _ _ _ _ _ rfl (List.length_map ..).symm | exact Fz.s _ _ _ _ _ _ rfl rfl | refine Fz.pL rfl ?_ | refine Fz.aggL ?_); first | done | fail) rfl ?_ | fail)
        refine again (m' := b.length) (Nat.lt_succ_self _) (w_canon 60 [] [6, 7, 8, 9] hp rfl rfl rfl rfl) ⟨a ++ [x], b, by rw [e]; simp, rfl, by rw [hw1]; rfl, by rw [runE_snoc, hmE]; rfl⟩
end
end Go.Proofs.YtphcaohldmdglaaDoor
