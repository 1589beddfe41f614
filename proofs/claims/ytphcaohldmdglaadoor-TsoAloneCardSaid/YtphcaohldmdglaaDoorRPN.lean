/-
  Walks of functions of the program, and what the laws need of them.
-/
import Derived.Test.YtphcaohldmdglaaDoorRPK
import Derived.Test.YtphcaohldmdglaaDoorRPI
set_option linter.all false
set_option linter.unusedSimpArgs false
set_option linter.unusedVariables false
set_option linter.unnecessarySimpa false
namespace Go.Proofs.YtphcaohldmdglaaDoor
set_option maxRecDepth 20000
open Go Go.Proofs.YtphcaohldmdglaaDoor.V Go.Proofs
def mZ (p : Prg) (w : MS × State) (x : Int × Bool) : MS × State := (mW p w.1 x, if (tsoW p w.1.1 x.1 x.2).2 = true ∧ x.2 = false then (scW p w.2 0).1 else w.2)
def runZ (p : Prg) (w : MS × State) (l : List (Int × Bool)) : MS × State := l.foldl (mZ p) w
theorem runZ_snoc (p : Prg) (w : MS × State) (l : List (Int × Bool)) (x : Int × Bool) : runZ p w (l ++ [x]) = mZ p (runZ p w l) x := by unfold runZ; rw [List.foldl_append]; rfl
structure oneQ (p : Prg) (m : Nat) (w : MS × State) : Prop where
  mq : mQ p m w.1
  al : ∃ x b, AloneQ w.1.1 w.2 x b
  zq : stQ p w.2
theorem oneQ.step {p : Prg} (hc : checkC p = 0) (hn : numsOk p) {m : Nat} {w : MS × State} (h : oneQ p m w) (y : Int × Bool) : oneQ p (m + 1) (mZ p w y) ∧ ((tsoW p w.1.1 y.1 y.2).2 = true → y.2 = false → (scW p w.2 0).2 = true) := by
  obtain ⟨h1, ⟨x, b, h2⟩, h3⟩ := h
  obtain ⟨⟨s, R⟩, z⟩ := w
  obtain ⟨t, f⟩ := y
  simp only at h1 h2 h3 ⊢
  have hm := h1.step hc hn (t, f)
  have hl : s.thr.length = 1 := by rw [h2.thr]; rfl
  by_cases ht : t = 0
  · subst ht
    cases f with
    | true =>
      obtain ⟨e1, e2⟩ := alone_flush (p := p) h2
      refine ⟨⟨hm, ⟨x, b.tail, ?_⟩, ?_⟩, fun _ h => by cases h⟩
      · show AloneQ (tsoW p s 0 true).1 (if _ ∧ true = false then _ else z) x b.tail
        rw [if_neg (by simp)]; exact e1
      · show stQ p (if _ ∧ true = false then _ else z)
        rw [if_neg (by simp)]; exact h3
    | false =>
      rcases alone_step hc h2 h1.st.len with ⟨e1, e2⟩ | ⟨e1, e2, y', b', e3⟩
      · refine ⟨⟨hm, ⟨x, b, ?_⟩, ?_⟩, fun h => by rw [e1] at h; cases h⟩
        · show AloneQ (tsoW p s 0 false).1 (if (tsoW p s 0 false).2 = true ∧ false = false then _ else z) x b
          rw [if_neg (by rw [e1]; simp), e2]; exact h2
        · show stQ p (if (tsoW p s 0 false).2 = true ∧ false = false then _ else z)
          rw [if_neg (by rw [e1]; simp)]; exact h3
      · refine ⟨⟨hm, ⟨y', b', ?_⟩, ?_⟩, fun _ _ => e2⟩
        · show AloneQ (tsoW p s 0 false).1 (if (tsoW p s 0 false).2 = true ∧ false = false then (scW p z 0).1 else z) y' b'
          rw [if_pos ⟨e1, rfl⟩]; exact e3
        · show stQ p (if (tsoW p s 0 false).2 = true ∧ false = false then (scW p z 0).1 else z)
          rw [if_pos ⟨e1, rfl⟩]; exact (scW_ok hn h3 0).1
  · have ho := tsoW_out (p := p) (s := s) (t := t) (by omega) f
    refine ⟨⟨hm, ⟨x, b, ?_⟩, ?_⟩, fun h => by rw [ho] at h; cases h⟩
    · show AloneQ (tsoW p s t f).1 (if (tsoW p s t f).2 = true ∧ f = false then _ else z) x b
      rw [if_neg (by rw [ho]; simp), ho]; exact h2
    · show stQ p (if (tsoW p s t f).2 = true ∧ f = false then _ else z)
      rw [if_neg (by rw [ho]; simp)]; exact h3
theorem oneQ.run {p : Prg} (hc : checkC p = 0) (hn : numsOk p) : ∀ (l : List (Int × Bool)) {m : Nat} {w : MS × State}, oneQ p m w → oneQ p (m + l.length) (runZ p w l)
  | [], _, _, h => h
  | y :: l, m, w, h => by
    have := oneQ.run hc hn l (h.step hc hn y).1
    rw [List.length_cons, show m + (l.length + 1) = m + 1 + l.length by omega]
    exact this
theorem alone_flushes {p : Prg} : ∀ (j : Nat) {q : MS} {z : State} {x : Thr} {b : List Entry}, AloneQ q.1 z x b → AloneQ (runT p q (List.replicate j ((0 : Int), true))).1 z x (b.drop j)
  | 0, _, _, _, _, h => h
  | j + 1, q, z, x, b, h => by
    have := alone_flushes (p := p) j (q := mW p q ((0 : Int), true)) (alone_flush (p := p) h).1
    rw [show b.drop (j + 1) = b.tail.drop j by cases b <;> simp]
    exact this
theorem alone_dr {p : Prg} {q : MS} {z : State} {x : Thr} {b : List Entry} (h : AloneQ q.1 z x b) : noB (drA p q 1).1 = z := by
  have hb : bufAt q.1 0 = b := by rw [bufAt, h.bufs]; rfl
  have := alone_flushes (p := p) (bufAt q.1 0).length h
  rw [hb, List.drop_length] at this
  have e := alone_end this
  rw [← hb] at e
  exact e
def invAlone {p : Prg} {m0 : Nat} {s0 : State} {R0 : List Rg} {z0 : State} (_ : oneQ p m0 ((s0, R0), z0)) (row : List (Int × Bool)) (m : Nat) (env : TEnv) (σ : TS) : Prop :=
  ∃ a b, row = a ++ b ∧ m = b.length ∧ env = [(6, .p 0 0), (7, .p (4 + 2 * R0.length) 0), (8, .lst 2 (row.map cPick)), (9, tI a.length)] ∧ σ = ⟨tsM p (runZ p ((s0, R0), z0) a).1.1 (runZ p ((s0, R0), z0) a).1.2 0 ++ scM p (runZ p ((s0, R0), z0) a).2 (4 + 2 * R0.length), 60⟩
section
attribute [local irreducible] TwS TwR thenT inBlockT retT nextW localW loadedW swapW Rg.push Rg.pop tsoW doR scW
set_option maxHeartbeats 20000000 in
theorem tsoAlone (l : List Act) (hl : ∀ a ∈ l, inR a.n) (picks : List Int) : Pure prog Tabs n_law_TsoAlone [.lst 5 (l.map cAct), rwI picks] (tB true) := by
  obtain ⟨p, ho, hc, hn, c1, hp1, hq⟩ := book_one l hl
  have h3 : p.threads.length ≤ 3 := by omega
  have hq0 := beginM_ok hq
  have c2 := tnew_own p ho hc (start_okS hc) rfl h3
  have c2' := new_own p ho hc (start_okS hc) rfl
  have c3 := alive_spec
  have c4 := picks_own (G := Tabs) picks 1 60 (by omega) (by decide)
  have hsl := picksF_len picks 1 60
  generalize picksF picks 1 60 = row at c4 hsl
  have hsm : (row.map cPick).length = row.length := List.length_map ..
  have hO : oneQ p 0 (beginM p, start0 p) := ⟨hq0, ⟨zThr, [], ⟨by show List.replicate _ _ = _; rw [hp1]; rfl, by show List.replicate _ _ = _; rw [hp1]; rfl, by show List.replicate _ _ = _; rw [hp1]; rfl, rfl, rfl, rfl, fun e he => by cases he⟩⟩, hq⟩
  have hR0 : (beginM p).2.length = 1 := by show (List.replicate _ _).length = 1; rw [List.length_replicate, hp1]
  generalize hqe : beginM p = q0 at *
  generalize hze : start0 p = z0 at *
  obtain ⟨s0, R0⟩ := q0
  obtain ⟨r0, rfl⟩ : ∃ r0, R0 = [r0] := List.length_eq_one_iff.1 hR0
  refine Pure.of mixedOk (fn := f_law_TsoAlone) (by kernel_rfl) (by kernel_rfl) ok_law_TsoAlone rfl fun C hP hG hp => goF ?_; simp only [fs_law_TsoAlone, targEnv, Nat.zero_add, Nat.reduceAdd]
  repeat' (first | refine goR rfl ?_ | refine goS rfl ?_ | refine tret1 rfl ?_ | refine tretN rfl ?_ | refine tr_guard_y rfl rfl ?_ | refine tr_guard_n rfl rfl ?_ | refine ts_cond_t rfl rfl ?_ | refine ts_cond_f rfl rfl ?_ | refine tr_frzS 12 rfl rfl rfl ?_ | refine tr_callA rfl (by rw [hP]; exact c1 _) rfl ?_ | refine tr_mcallX hP hG (c2) rfl rfl rfl rfl rfl rfl rfl rfl rfl rfl rfl rfl ?_ | refine tr_mcallX hP hG (c2') rfl rfl rfl rfl rfl rfl rfl rfl rfl rfl rfl rfl ?_ | refine tr_mcallX hP hG (c4) rfl rfl rfl rfl rfl rfl rfl rfl rfl rfl rfl rfl ?_ | fail)
  refine ts_weak (w_frzS 8 rfl rfl hsm.symm) ?_
  refine loopS (invAlone hO row) row.length (w_canon 60 [] [6, 7, 8, 9] hp rfl rfl rfl rfl) ⟨[], row, rfl, rfl, rfl, rfl⟩ ?_
  rintro m1 env σ ⟨a, b, e, rfl, rfl, rfl⟩
  have hla : row.length = a.length + b.length := by rw [e, List.length_append]
  have hOa := hO.run hc hn a
  have hzb : (runZ p ((s0, [r0]), z0) a).2.bufs = [] := by obtain ⟨_, _, h⟩ := hOa.al; exact h.zb
  have hzt : (runZ p ((s0, [r0]), z0) a).2.thr.length = 1 := by obtain ⟨_, _, h⟩ := hOa.al; rw [h.zthr]; rfl
  cases b with
  | nil =>
    rw [List.length_nil] at hla
    have hlt : decide ((a.length : Int) < ((row.map cPick).length : Int)) = false := decide_eq_false (by omega)
    have hdq := drA_ok hc hn hOa.mq 1
    have c5 := tdrain_own p ho hc hn _ hOa.mq (by omega) h3
    rw [hp1] at c5
    have c6 := tstate_own (G := Tabs) p _ hdq (by omega) (by have := hdq.memLen hc; omega) h3
    have hok := hdq.okS hc (by omega) (by omega)
    have hnz : noB (drA p (runZ p ((s0, [r0]), z0) a).1 1).1 = (runZ p ((s0, [r0]), z0) a).2 := by obtain ⟨_, _, h⟩ := hOa.al; exact alone_dr h
    have hokz : okS (runZ p ((s0, [r0]), z0) a).2 := by rw [← hnz]; exact ⟨hok.1, hok.2.1, Nat.zero_le _, fun l hl => by cases hl⟩
    have c7 := state_own (G := Tabs) p _ hokz hzb
    have c8 := sameSt_spec (G := Tabs) _ hokz
    obtain ⟨s2, R2, hq2, hl2, hR2⟩ := hdq.split hq0 h3
    rw [hq2] at c5 c6 hnz
    rw [← hnz] at c7 c8
    obtain ⟨s1, R1, hq1, hl1, hR1⟩ := hOa.mq.split hq0 h3
    rw [hq1] at c5
    rw [hq1, ← hnz]
    simp only at c5 c6 c7 c8
    obtain ⟨r1, rfl⟩ : ∃ r, R1 = [r] := List.length_eq_one_iff.1 hl1
    obtain ⟨r2, rfl⟩ : ∃ r, R2 = [r] := List.length_eq_one_iff.1 hl2
    repeat' (first | refine goR rfl ?_ | refine goS rfl ?_ | refine tret1 rfl ?_ | refine tretN rfl ?_ | refine tr_guard_y rfl rfl ?_ | refine tr_guard_n rfl rfl ?_ | refine ts_cond_t rfl rfl ?_ | refine ts_cond_f rfl rfl ?_ | refine ts_cond_f rfl hlt ?_ | refine tr_mcallX hP hG (c5) rfl rfl rfl rfl rfl rfl rfl rfl rfl rfl rfl rfl ?_ | refine tr_mcallX hP hG (c6) rfl rfl rfl rfl rfl rfl rfl rfl rfl rfl rfl rfl ?_ | refine tr_mcallX hP hG (c7) rfl rfl rfl rfl rfl rfl rfl rfl rfl rfl rfl rfl ?_ | refine tr_callV hP hG (c8) rfl (by (repeat' first | exact FzL.nil | refine FzL.cons ?_ ?_ | exact Fz.fr rfl | exact Fz.nil _ | exact Fz.s _ _ _ _ _ _ rfl (List.length_map ..).symm | exact Fz.s _ _ _ _ _ _ rfl rfl | refine Fz.pL rfl ?_ | refine Fz.aggL ?_); first | done | fail) rfl ?_ | refine tr_callA rfl (by rw [hP, hG]; exact c3) rfl ?_ | fail)
    exact .fr rfl
  | cons x b =>
    have hx : row[a.length]? = some x := by rw [e]; exact ix
    simp only [List.length_cons] at hla
    have hlt : decide ((a.length : Int) < ((row.map cPick).length : Int)) = true := decide_eq_true (by omega)
    have hw1 : IntKind.i64.wrap ((a.length : Int) + 1) = ((a ++ [x]).length : Int) := by rw [w64 (by omega), List.length_append]; rfl
    obtain ⟨hOb, hdn⟩ := hOa.step hc hn x
    have c5 := tdo_own p ho hc _ hOa.mq (by omega) h3 x.1 x.2
    have c6 := step_own p ho hc _ hOa.zq (by omega) 0
    have hmid := hOa.mq.step hc hn x
    obtain ⟨s1, R1, hq1, hl1, hR1⟩ := hOa.mq.split hq0 h3
    obtain ⟨s2, R2, hq2, hl2, hR2⟩ := hmid.split hq0 h3
    have hst : runZ p ((s0, [r0]), z0) (a ++ [x]) = ((s2, R2), if (tsoW p s1 x.1 x.2).2 = true ∧ x.2 = false then (scW p (runZ p ((s0, [r0]), z0) a).2 0).1 else (runZ p ((s0, [r0]), z0) a).2) := by
      rw [runZ_snoc]
      unfold mZ
      rw [hq2, hq1]
    rw [show (x.1, x.2) = x from rfl, hq2] at c5
    rw [hq1] at c5 hdn
    rw [hq1]
    simp only at c5 hdn
    generalize (runZ p ((s0, [r0]), z0) a).2 = z at *
    obtain ⟨r1, rfl⟩ : ∃ r, R1 = [r] := List.length_eq_one_iff.1 hl1
    obtain ⟨r2, rfl⟩ : ∃ r, R2 = [r] := List.length_eq_one_iff.1 hl2
    obtain ⟨xt, xf⟩ := x
    simp only at c5 hdn hst
    cases hbb : (tsoW p s1 xt xf).2 with
    | false =>
      rw [hbb] at c5 hst
      repeat' (first | refine goR rfl ?_ | refine goS rfl ?_ | refine tret1 rfl ?_ | refine tretN rfl ?_ | refine tr_guard_y rfl rfl ?_ | refine tr_guard_n rfl rfl ?_ | refine ts_cond_t rfl rfl ?_ | refine ts_cond_f rfl rfl ?_ | refine ts_cond_t rfl hlt ?_ | refine tr_light (tl_ixm rfl rfl rfl hx) ?_ | refine tr_mcallX hP hG (c5) rfl rfl rfl rfl rfl rfl rfl rfl rfl rfl rfl rfl ?_ | fail)
      exact again (m' := b.length) (Nat.lt_succ_self _) (w_canon 60 [] [6, 7, 8, 9] hp rfl rfl rfl rfl) ⟨a ++ [(xt, xf)], b, by rw [e]; simp, rfl, by rw [hw1]; rfl, by rw [hst]; rfl⟩
    | true =>
      cases xf with
      | true =>
        rw [hbb] at c5 hst
        repeat' (first | refine goR rfl ?_ | refine goS rfl ?_ | refine tret1 rfl ?_ | refine tretN rfl ?_ | refine tr_guard_y rfl rfl ?_ | refine tr_guard_n rfl rfl ?_ | refine ts_cond_t rfl rfl ?_ | refine ts_cond_f rfl rfl ?_ | refine ts_cond_t rfl hlt ?_ | refine tr_light (tl_ixm rfl rfl rfl hx) ?_ | refine tr_mcallX hP hG (c5) rfl rfl rfl rfl rfl rfl rfl rfl rfl rfl rfl rfl ?_ | fail)
        exact again (m' := b.length) (Nat.lt_succ_self _) (w_canon 60 [] [6, 7, 8, 9] hp rfl rfl rfl rfl) ⟨a ++ [(xt, true)], b, by rw [e]; simp, rfl, by rw [hw1]; rfl, by rw [hst]; rfl⟩
      | false =>
        have hs2 := hdn hbb rfl
        rw [hbb] at c5 hst
        rw [hs2] at c6
        generalize (scW p z 0).1 = z2 at *
        repeat' (first | refine goR rfl ?_ | refine goS rfl ?_ | refine tret1 rfl ?_ | refine tretN rfl ?_ | refine tr_guard_y rfl rfl ?_ | refine tr_guard_n rfl rfl ?_ | refine ts_cond_t rfl rfl ?_ | refine ts_cond_f rfl rfl ?_ | refine ts_cond_t rfl hlt ?_ | refine tr_light (tl_ixm rfl rfl rfl hx) ?_ | refine tr_mcallX hP hG (c5) rfl rfl rfl rfl rfl rfl rfl rfl rfl rfl rfl rfl ?_ | refine tr_mcallX hP hG (c6) rfl rfl rfl rfl rfl rfl rfl rfl rfl rfl rfl rfl ?_ | fail)
        exact again (m' := b.length) (Nat.lt_succ_self _) (w_canon 60 [] [6, 7, 8, 9] hp rfl rfl rfl rfl) ⟨a ++ [(xt, false)], b, by rw [e]; simp, rfl, by rw [hw1]; rfl, by rw [hst]; rfl⟩
end
end Go.Proofs.YtphcaohldmdglaaDoor
