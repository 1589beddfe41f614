/-
  Walks of functions of the program, and what the laws need of them.
-/
import Derived.Test.YtnphhelbianjpaaGreatDoorRPC
import Derived.Test.YtnphhelbianjpaaGreatDoorRPO
import Derived.Test.YtnphhelbianjpaaGreatDoorRPS
import Derived.Test.YtnphhelbianjpaaGreatDoorRPN
import Derived.Test.YtnphhelbianjpaaGreatDoorVI
set_option linter.all false
set_option linter.unusedSimpArgs false
set_option linter.unusedVariables false
set_option linter.unnecessarySimpa false
namespace Go.Proofs.YtnphhelbianjpaaGreatDoor
set_option maxRecDepth 20000
open Go Go.Proofs.YtnphhelbianjpaaGreatDoor.V Go.Proofs
section
attribute [local irreducible] TwS TwR thenT inBlockT retT
variable {G : World → Prop}
end
end Go.Proofs.YtnphhelbianjpaaGreatDoor
namespace Go.Proofs.YtnphhelbianjpaaGreatDoor
set_option maxRecDepth 20000
open Go Go.Proofs.YtnphhelbianjpaaGreatDoor.V Go.Proofs
theorem thO_len6 (many : Nat) (r : List Act) : (thO many r).length ≤ many + 1 := by
 unfold thO
 rw [labS_len]
 unfold baseO
 rw [lA]
 unfold rawO
 rw [lM, List.length_take]
 show _ + 1 ≤ _
 omega
theorem book_s6' (l : List (List Act)) (hl : ∀ r ∈ l, ∀ a ∈ r, inR a.n) : ∃ p, okP p ∧ checkC p = 0 ∧ numsOk p ∧ (∀ G, Pure prog G 5 [cActs l, tI 3, tI 6] (.agg (cPrg p))) ∧ p.threads.length ≤ 3 ∧ stQ p (start0 p) ∧ ∀ t ∈ p.threads, t.length ≤ 7 := by
 obtain ⟨h1, h2⟩ := prog_ok l 3 6 (by decide) (by decide)
 refine ⟨_, h2, h1, prog_nums hl 3 6, fun G => progO_spec l 3 6 (by decide) (by decide), ?_, start_q ?_, ?_⟩
 ·show ((l.take 3).map (thO 6)).length ≤ 3
  rw [lM, List.length_take]; omega
 ·intro v hv
  have hv : v ∈ [(0 : Int), 1, 0, 0] := hv
  have : v = 0 ∨ v = 1 ∨ v = 0 := by simpa using hv
  rcases this with rfl | rfl | rfl <;> (unfold inR; decide)
 ·intro t ht
  have ht : t ∈ (l.take 3).map (thO 6) := ht
  obtain ⟨r, _, rfl⟩ := List.mem_map.1 ht
  exact thO_len6 6 r
theorem dnA_at {p : Prg} : ∀ {a b : List Pk} {x : Pk} {s : State}, dnA p s (a ++ x :: b) → (tsoW p (sA p s a) x.1 x.2).2 = true
 | [], _, _, _, h => h.1
 | _ :: a, _, _, _, h => dnA_at (a := a) h.2
theorem ptsF_wv (pts : List (List Int)) (p : Prg) (h7 : ∀ t ∈ p.threads, t.length ≤ 7) : ∀ (t : Nat) (ins : List Ins), p.threads[t]? = some ins → wvQ ((ptsF pts p.threads).getD t []) ins ∧ ordF none ((ptsF pts p.threads).getD t []) = true := by
 intro t ins ht
 have h := h7 ins (List.mem_of_getElem? ht)
 cases hp : pts[t]? with
 | none =>
  have h1 := ptsF_len pts p.threads
  have h2 := List.getElem?_eq_none_iff.1 hp
  rw [List.getD_eq_getElem?_getD, List.getElem?_eq_none (by omega), Option.getD_none]
  exact ⟨⟨⟨.nil, fun a h => by cases h⟩, (fun a h => by cases h), by omega⟩, rfl⟩
 | some l =>
  rw [List.getD_eq_getElem?_getD, ptsF_get hp ht, Option.getD_some]
  have ho := (ixsB_ord (mkBs ins.length l) 0 (by rw [mkBs_len]; omega)).1
  refine ⟨⟨ord_rises ho, fun a ha => ?_, by omega⟩, ho⟩
  have := (ixsB_mem _ 0 a ha).2
  rw [mkBs_len] at this
  omega
theorem at_not {l : List Int} {ins : List Ins} {y : Thr} {n : Nat} (hr : rises l) (h : wAt l ins y n false) : y.pc ∉ fenF 0 l := by
 rw [h.ins rfl]
 intro hm
 by_cases hn : (n : Int) ∈ l
 ·rw [if_pos hn] at hm
  exact (back_ent1 hr hn).2 (by simpa using hm)
 ·rw [if_neg hn, Nat.add_zero] at hm
  obtain ⟨m, hm1, hm2⟩ := (fen_iff hr _).1 hm
  have : n = m := entN_inj l (by omega)
  exact hn (this ▸ hm1)
theorem at_pc {l : List Int} {ins : List Ins} {y : Thr} {n : Nat} (h : wAt l ins y n false) : 0 ≤ y.pc ∧ y.pc ≤ 2 * (ins.length : Int) + 1 := by
 rw [h.ins rfl]
 have h1 := cutN_le l n 0
 have h2 := h.le
 unfold entN
 split <;> omega
section
attribute [local irreducible] TwS TwR thenT inBlockT retT nextW localW loadedW swapW scW liftL tsoW stepB flushW sA scL
set_option maxHeartbeats 20000000 in
theorem liftHolds (l : List (List Act)) (hl : ∀ r ∈ l, ∀ a ∈ r, inR a.n) (pts : List (List Int)) (steps : List Int) : Pure prog Tabs 4 [cActs l, ptR pts, rwI steps] (tB true) := by
 obtain ⟨p, ho, hc, hn, c1, h3, hq, h7⟩ := book_s6' l hl
 have cAl := aliveL_spec
 have c2 := greatLists_spec (G := Tabs) pts
 cases hg : greatL pts with
 | true =>
  rw [hg] at c2
  refine Pure.at mixedOk F4 rfl fun C hP hG hp => goF ?_; simp only [F4, targEnv, Nat.zero_add, Nat.reduceAdd]
  repeat' (first | refine goR rfl ?_ | refine goS rfl ?_ | refine tret1 rfl ?_ | refine tretN rfl ?_ | refine gY rfl rfl ?_ | refine gN rfl rfl ?_ | refine qT rfl rfl ?_ | refine qF rfl rfl ?_ | refine cA rfl (by rw [hP]; exact c1 _) rfl ?_ | refine cA rfl (by rw [hP, hG]; exact c2) rfl ?_ | refine cA rfl (by rw [hP, hG]; exact cAl) rfl ?_ | fail)
  exact .fr rfl
 | false =>
  rw [hg] at c2
  obtain ⟨h10, h30⟩ := greatL_no hg
  have hb : ∀ t ∈ p.threads, t.length ≤ 100000 := fun t ht => by have := h7 t ht; omega
  have c3 := points_spec (G := Tabs) p hb pts h10 h30 (by omega)
  obtain ⟨p1, p2, p3⟩ := ptsF_ok pts p.threads hb
  have hwv := ptsF_wv pts p h7
  generalize ptsF pts p.threads = R at *
  have hRo : ∀ x ∈ R, x.length ≤ 1000000 ∧ ordF none x = true := fun x hx => by
   obtain ⟨k, hk, rfl⟩ := List.mem_iff_getElem.1 hx
   have h1 := (hwv k p.threads[k] (List.getElem?_eq_getElem (by omega))).2
   rw [List.getD_eq_getElem?_getD, List.getElem?_eq_getElem hk, Option.getD_some] at h1
   exact ⟨p3 _ hx, h1⟩
  have cW := weave3_spec p ho hc hb R p2 p3
  rw [if_pos p1] at cW
  have hth : (p.threads.map cTh).length = p.threads.length := lM ..
  have c4 := steps_own (G := Tabs) steps (p.threads.map cTh).length 50 (by omega) (by decide)
  have hsl : (stepsF steps (p.threads.map cTh).length 50).length ≤ 50 := by rw [stepsF, lM, List.length_take]; omega
  generalize stepsF steps (p.threads.map cTh).length 50 = row at *
  have hsm : (row.map fun n => [tI n]).length = row.length := lM ..
  have cU := up_spec p ho hc hn hq hb R p2 p3 p1 row (by omega)
  have hcq := wv_check hc R
  have hoq := wv_okP ho R (fun t ht => by have := h7 t ht; omega)
  have hnq := wv_nums hn R
  have hqq : stQ (wvP p R) (start0 (wvP p R)) := by rw [wv_start]; exact ⟨hq.len, hq.thr, hq.mem⟩
  have hql : (wvP p R).threads.length = p.threads.length := wvT_len ..
  obtain ⟨k1, k2, k3, _⟩ := check_syms hcq
  have cB := beginT_own (G := Tabs) (wvP p R) k1 k2 k3
  have hq0 := beginM_ok hqq
  obtain ⟨hdn, hL⟩ := lift_ok hc ho (fun t ins ht => (hwv t ins ht).1) row
  have hln := lift_len p R row
  have cS := scRun_spec p ho hc hn hq row (by omega)
  have hsok := scL_ok hn row hq
  have hsA : ∀ a, (runT (wvP p R) (beginM (wvP p R)) a).1 = sA (wvP p R) (startT (wvP p R)) a := fun a => runT_s (wvP p R) a (beginM (wvP p R))
  have hs00 : sA (wvP p R) (startT (wvP p R)) [] = startT (wvP p R) := by unfold sA; rfl
  have hsn : ∀ (a : List Pk) (x : Pk), sA (wvP p R) (startT (wvP p R)) (a ++ [x]) = (tsoW (wvP p R) (sA (wvP p R) (startT (wvP p R)) a) x.1 x.2).1 := fun a x => by rw [sA_app]; unfold sA; rfl
  have hlk0 : (startT (wvP p R)).lock = 0 := rfl
  generalize liftL p R row = K at *
  generalize scL p (start0 p) row = z at *
  obtain ⟨q, hqe⟩ : ∃ q, q = wvP p R := ⟨_, rfl⟩
  rw [← hqe] at cW cB hcq hoq hnq hqq hql hq0 hdn hL hsA hs00 hsn hlk0
  clear hqe k1 k2 k3
  generalize hs0 : startT q = s0 at *
  have hKm : (K.map cPick).length = K.length := lM ..
  have hRm : (R.map fun l => [rwI l]).length = R.length := lM ..
  refine Pure.at mixedOk F4 rfl fun C hP hG hp => goF ?_; simp only [F4, targEnv, Nat.zero_add, Nat.reduceAdd]
  repeat' (first | refine goR rfl ?_ | refine goS rfl ?_ | refine tret1 rfl ?_ | refine tretN rfl ?_ | refine gY rfl rfl ?_ | refine gN rfl rfl ?_ | refine qT rfl rfl ?_ | refine qF rfl rfl ?_ | refine cA rfl (by rw [hP]; exact c1 _) rfl ?_ | refine cA rfl (by rw [hP, hG]; exact c2) rfl ?_ | refine cA rfl (by rw [hP, hG]; exact c3) rfl ?_ | refine cA rfl (by rw [hP, hG]; exact cW) rfl ?_ | (refine tr_mcallX hP hG (c4) rfl rfl rfl rfl rfl rfl rfl rfl rfl rfl rfl rfl ?_; refine tr_frzS 35 rfl rfl hsm.symm ?_) | refine cA rfl (by rw [hP, hG]; exact cU) rfl ?_ | refine tr_mcallX hP hG (cB) rfl rfl rfl rfl rfl rfl rfl rfl rfl rfl rfl rfl ?_ | fail)
  refine loopS (fun m env σ => ∃ a b, K = a ++ b ∧ m = b.length ∧ env = [(1, ptR R), (7, .p 0 0), (8, .p 1 0), (10, rwI row), (11, .lst 2 (K.map cPick)), (12, .p 2 0), (13, tI a.length)] ∧
   σ = ⟨(0, .cells (cPrg p) 28) :: (1, .cells (cPrg q) 28) :: rfT (sA q s0 a) 2, 60⟩) K.length (w_canon 60 [] [1, 7, 8, 10, 11, 12, 13] hp rfl rfl rfl rfl) ⟨[], K, rfl, rfl, rfl, by rw [hs00]; show _ = (⟨_ :: _ :: ((2, .cells [_, _, _, tI s0.lock] _) :: _), 60⟩ : TS); rw [hlk0]; rfl⟩ ?_
  rintro m1 env σ ⟨a, b, e, rfl, rfl, rfl⟩
  have hla : K.length = a.length + b.length := by rw [e, lA]
  cases b with
  | cons x b =>
   have hx : K[a.length]? = some x := by rw [e]; exact ix
   simp only [List.length_cons] at hla
   have hlt : decide ((a.length : Int) < ((K.map cPick).length : Int)) = true := dT (by omega)
   have hw1 : IntKind.i64.wrap ((a.length : Int) + 1) = ((a ++ [x]).length : Int) := by rw [w64 (by omega), lA]; rfl
   have hdx := dnA_at (e ▸ hdn)
   have hss := hsn a x
   have hqa := hq0.run hcq hnq a
   have hst := hqa.st
   have hbl := hqa.blen
   have hthr := hqa.thr
   have hfw := hqa.few
   rw [hsA a] at hst hbl hthr hfw
   generalize sA q s0 a = s1 at *
   have cT := tsoR_own q hoq hcq s1 hst hbl (by omega) (fun l hl => ⟨by have := (hfw l hl).1; omega, (hfw l hl).2⟩) x.1 x.2
   obtain ⟨t, f⟩ := x
   simp only at cT hss hdx
   rw [hdx, ← hss] at cT
   clear hst hbl hthr hfw hqa hL
   repeat' (first | refine goR rfl ?_ | refine goS rfl ?_ | refine tret1 rfl ?_ | refine tretN rfl ?_ | refine gY rfl rfl ?_ | refine gN rfl rfl ?_ | refine qT rfl rfl ?_ | refine qF rfl rfl ?_ | refine qT rfl hlt ?_ | refine lT (tl_ixm rfl rfl rfl hx) ?_ | refine tr_mcallX hP hG (cT) rfl rfl rfl rfl rfl rfl rfl rfl rfl rfl rfl rfl ?_ | fail)
   exact again (m' := b.length) (Nat.lt_succ_self _) (w_canon 60 [] [1, 7, 8, 10, 11, 12, 13] hp rfl rfl rfl rfl) ⟨a ++ [(t, f)], b, by rw [e]; simp, rfl, by rw [hw1], rfl⟩
  | nil =>
   rw [List.length_nil] at hla
   rw [List.append_nil] at e
   subst e
   have hqa := hq0.run hcq hnq K
   have hokS := hqa.okS hcq (by omega) (by omega)
   rw [hsA K] at hokS
   generalize sA q s0 K = S at *
   clear hq0 hqa hsA hs00 hsn hdn
   obtain ⟨L1, L2, L3, L4, L5, L6, L7, L8, L9, L10⟩ := hL
   have hpcs : ∀ y ∈ S.thr, 0 ≤ y.pc ∧ y.pc < 2147483648 := fun y hy => by
    obtain ⟨k, hk, rfl⟩ := List.mem_iff_getElem.1 hy
    have hkt : k < p.threads.length := by omega
    obtain ⟨y', n, e1, _, e3⟩ := L10 k p.threads[k] (List.getElem?_eq_getElem hkt)
    rw [List.getElem?_eq_getElem hk] at e1
    cases e1
    have := at_pc e3
    have := h7 _ (List.getElem_mem hkt)
    omega
   have hpl : plT R S.thr S.thr.length = z.thr := by
    apply List.ext_getElem?
    intro i
    rw [plT_get]
    by_cases hi : i < p.threads.length
    ·obtain ⟨y', n, e1, e2, _⟩ := L10 i p.threads[i] (List.getElem?_eq_getElem hi)
     rw [e1, e2]
     show some (if i < _ then _ else _) = _
     rw [if_pos (by omega)]
    ·rw [List.getElem?_eq_none (by omega), List.getElem?_eq_none (by omega)]; rfl
   have cD := drained3_spec (G := Tabs) S hokS L6 (by omega) R (by omega) hRo hpcs
   rw [show [rwI S.mem, .lst 16 ((plT R S.thr S.thr.length).map cThr), .lst 1 [], tI S.lock] = stV z by rw [hpl, L1, L9]; show _ = [rwI z.mem, .lst 16 (z.thr.map cThr), .lst 1 [], tI z.lock]; rw [L8]] at cD
   have cE := drainedB_spec (G := Tabs) S L6 (by omega) L9
   have cF := same_own (G := Tabs) z (stQ_okS hc hsok.1 (hsok.2.1.trans (List.length_replicate ..)) L7) L7
   repeat' (first | refine goR rfl ?_ | refine goS rfl ?_ | refine tret1 rfl ?_ | refine tretN rfl ?_ | refine gY rfl rfl ?_ | refine gN rfl rfl ?_ | refine qT rfl rfl ?_ | refine qF rfl rfl ?_ | refine qF rfl (dF (by omega)) ?_ | fail)
   refine loopS (fun m env σ => ∃ t : Nat, t ≤ R.length ∧ m = R.length - t ∧ env = [(1, ptR R), (7, .p 0 0), (10, rwI row), (12, .p 1 0), (14, tI t)] ∧
    σ = ⟨(0, .cells (cPrg p) 28) :: rfT S 1, 60⟩) R.length (w_canon 60 [] [1, 7, 10, 12, 14] hp rfl rfl rfl rfl) ⟨0, Nat.zero_le _, rfl, rfl, rfl⟩ ?_
   rintro m2 env σ ⟨t, ht, rfl, rfl, rfl⟩
   by_cases htl : t < R.length
   ·have hx : R[t]? = some R[t] := List.getElem?_eq_getElem htl
    have hkt : t < p.threads.length := by omega
    have hwt := hwv t p.threads[t] (List.getElem?_eq_getElem hkt)
    obtain ⟨y, n, e1, _, e3⟩ := L10 t p.threads[t] (List.getElem?_eq_getElem hkt)
    obtain ⟨r1, r2⟩ := hRo _ (List.getElem_mem htl)
    rw [List.getD_eq_getElem?_getD, hx, Option.getD_some] at hwt e3
    have hnm := at_not hwt.1.rs e3
    generalize R[t] = x at *
    have hyt : (S.thr.map cThr)[t]? = some (cThr y) := by rw [List.getElem?_map, e1]; rfl
    have htS : t < S.thr.length := by omega
    have cN := fences3_spec (G := Tabs) x r1 r2
    have cI := in3_spec (G := Tabs) (fenF 0 x) (by rw [fenF_len]; exact r1) y.pc
    rw [dF hnm] at cI
    have hw1 : IntKind.i64.wrap ((t : Int) + 1) = ((t + 1 : Nat) : Int) := by rw [w64 (by omega)]; rfl
    clear hwv L10 hRo hpcs hpl
    repeat' (first | refine goR rfl ?_ | refine goS rfl ?_ | refine tret1 rfl ?_ | refine tretN rfl ?_ | refine gY rfl rfl ?_ | refine gN rfl rfl ?_ | refine qT rfl rfl ?_ | refine qF rfl rfl ?_ | refine qT rfl (dT (by omega)) ?_ | refine lT (tl_ixm rfl rfl rfl hx) ?_ | refine lT (tl_ixo (m := t) rfl rfl rfl htS) ?_ | refine lT (tl_ldE rfl rfl hyt rfl) ?_ | refine cA rfl (by rw [hP, hG]; exact cN) rfl ?_ | refine cA rfl (by rw [hP, hG]; exact cI) rfl ?_ | fail)
    exact again (m' := R.length - (t + 1)) (by omega) (w_canon 60 [] [1, 7, 10, 12, 14] hp rfl rfl rfl rfl) ⟨t + 1, by omega, rfl, by rw [hw1], rfl⟩
   ·refine ts_weak ((w_freezeC (j := 1) (i := 0) (k := 2) rfl rfl rfl (by decide) (.s _ _ (by rw [lM]))).trans ((w_freezeC (j := 1) (i := 1) (k := 3) rfl rfl rfl (by decide) (.s _ _ (by rw [lM]))).trans (w_freezeC (j := 1) (i := 2) (k := 4) rfl rfl rfl (by decide) (.s _ _ (by rw [lM]))))) ?_
    clear hwv L10 hRo hpcs hpl
    repeat' (first | refine goR rfl ?_ | refine goS rfl ?_ | refine tret1 rfl ?_ | refine tretN rfl ?_ | refine gY rfl rfl ?_ | refine gN rfl rfl ?_ | refine qT rfl rfl ?_ | refine qF rfl rfl ?_ | refine qF rfl (dF (by omega)) ?_ | refine cA rfl (by rw [hP, hG]; exact cE) rfl ?_ | refine cA rfl (by rw [hP, hG]; exact cD) rfl ?_ | refine cA rfl (by rw [hP, hG]; exact cS) rfl ?_ | refine cA rfl (by rw [hP, hG]; exact cF) rfl ?_ | refine cA rfl (by rw [hP, hG]; exact cAl) rfl ?_ | fail)
    exact .fr rfl
end
end Go.Proofs.YtnphhelbianjpaaGreatDoor
