/-
  Walks of functions of the program, and what the laws need of them.
-/
import Derived.Test.YtpeifhiphfpajaaGreatDoorRPM
set_option linter.all false
set_option linter.unusedSimpArgs false
set_option linter.unusedVariables false
set_option linter.unnecessarySimpa false
namespace Go.Proofs.YtpeifhiphfpajaaGreatDoor
set_option maxRecDepth 20000
open Go Go.Proofs.YtpeifhiphfpajaaGreatDoor.V Go.Proofs
theorem trS_s2 {p : Prg} {r : Tr} {k : Nat} {y : Thr} (hy : r.s.thr[k]? = some y) (hd : (tsoW p r.s k false).2 = true) : trS p r ((k : Int), false) = doT p r k y false := by
 unfold trS
 rw [if_pos hd]
 simp only [Int.toNat_natCast, hy]
theorem doQ_s {p : Prg} {r : Tr} {Q : List WQ} {k : Nat} {y : Thr} {q : WQ} (hy : r.s.thr[k]? = some y) (hgk : Q[k]? = some q) (hd : (tsoW p r.s k false).2 = true) : doQ p r Q k false = if (nextW p k y).kind = 3 then Q.set k ⟨q.xs.drop q.o ++ [cI r.es.length], 0, q.n + 1⟩ else Q := by
 unfold doQ
 rw [if_pos hd]
 simp only [Int.toNat_natCast, hy, hgk, Bool.false_eq_true, if_false]
theorem tr_plain {p : Prg} {r : Tr} {R : List Rg} {Q : List WQ} {k : Nat} {y : Thr} {q : WQ} (hy : r.s.thr[k]? = some y) (hgk : Q[k]? = some q) (hd : (tsoW p r.s k false).2 = true) (g3 : (nextW p k y).kind ≠ 3) (g4 : ¬ ((nextW p k y).kind = 4 ∧ (swapW p k y (rdM r.s (evOf p r k y).addr)).2.2 = true)) :
  trC p (trS p r ((k : Int), false)) (doR p r.s R k false) (doQ p r Q k false) = trO p (tsoW p r.s k false).1 (doR p r.s R k false) Q (r.es.length + 1) (r.es.map cEv ++ [cEv (evOf p r k y)]) r.wm r.n := by
 have hes1 : (r.es ++ [evOf p r k y]).map cEv = r.es.map cEv ++ [cEv (evOf p r k y)] := List.map_append
 have hel1 : (r.es ++ [evOf p r k y]).length = r.es.length + 1 := lA
 rw [trS_s2 hy hd, doQ_s hy hgk hd, if_neg g3, ← hes1, ← hel1]
 unfold doT
 simp only [Bool.false_eq_true, if_false]
 rw [if_neg (show ¬ (evOf p r k y).kind = 3 from g3), if_neg (show ¬ ((evOf p r k y).kind = 4 ∧ _) from g4)]
 rfl
section
attribute [local irreducible] TwS TwR thenT inBlockT retT nextW localW loadedW swapW Rg.push Rg.pop tsoW doR stepB flushW
set_option maxHeartbeats 20000000 in
theorem do_2 (p : Prg) {r : Tr} {R : List Rg} {Q : List WQ} {m : Nat} (hW : trW p r R Q m) (k : Nat) {y : Thr} (hy : r.s.thr[k]? = some y) (hd : (tsoW p r.s k false).2 = true) (k2 : (nextW p k y).kind = 2) :
  TC prog Tabs 23 [.p 0 0, .agg [tI k, tB false]] ⟨trC p r R Q, 60⟩ [0] (fun v σ' => v = .tup [] ∧ σ' = ⟨trC p (trS p r ((k : Int), false)) (doR p r.s R k false) (doQ p r Q k false), 60⟩) := by
 obtain ⟨ho, hc, hn, hmq, hmm, h3, hq, hQ, hes, hrn⟩ := id hW
 have hRQ : R.length = Q.length := by rw [hQ.1, hq.wl]; exact hmq.rg.len
 have hQ3 : Q.length ≤ 3 := by rw [hQ.1, hq.wl, hq.th]; exact h3
 have cst := tstate_own (G := Tabs) p _ hmq (by omega) (by have := hmq.memLen hc; omega) h3
 have cdo := tdo_own p ho hc _ hmq (by omega) h3 k false
 have hst := hmq.st
 have hlen := doR_len p r.s R k false
 simp only at cst cdo hst
 have hkl : k < r.s.thr.length := (List.getElem?_eq_some_iff.1 hy).1
 have hyt : (r.s.thr.map cThr)[k]? = some (cThr y) := by rw [List.getElem?_map, hy]; rfl
 have hyq := (hst.thr y (List.mem_of_getElem? hy)).r
 have hkq : k < Q.length := by rw [hQ.1, hq.wl]; exact hkl
 have hgk : Q[k]? = some Q[k] := List.getElem?_eq_getElem hkq
 have hok := hQ.2 k _ hgk
 generalize Q[k] = q at hgk hok
 have hbl : (bufAt r.s k).length ≤ m := hmq.bufAt k
 have hwl : (r.W.getD k []).length = (bufAt r.s k).length := by have := congrArg List.length (hq.bw k); rwa [lM, lM] at this
 have hml : (r.es.map cEv).length = r.es.length := lM ..
 rw [hd] at cdo
 have hR' : (doR p r.s R k false).length = Q.length := by rw [hlen]; exact hRQ
 have hR'3 : (doR p r.s R k false).length ≤ 3 := by omega
 have cn := next_spec p ho hc k y hyq
 have had := next_addr hc (t := k) (x := y)
 have hmw : mW p (r.s, R) ((k : Int), false) = ((tsoW p r.s k false).1, doR p r.s R k false) := rfl
 rw [hmw] at cdo
 simp only at cdo
 show TC prog Tabs 23 _ ⟨trO p r.s R Q r.es.length (r.es.map cEv) r.wm r.n, 60⟩ _ _
 have hev : cEv (evOf p r k y) = [tI k, tI y.pc, tI 2, tI (nextW p k y).addr, tI (frmW r k (nextW p k y).addr), tI (-1)] := by
  unfold evOf cEv
  simp only
  rw [if_pos (.inl k2), if_pos (.inl k2), k2]
 have cf : TC prog Tabs 55 [.p 0 0, tI k, tI (nextW p k y).addr] ⟨trO p (tsoW p r.s k false).1 (doR p r.s R k false) Q r.es.length (r.es.map cEv) r.wm r.n, 60⟩ [0] (fun v σ' => v = tI (frmW r k (nextW p k y).addr) ∧ σ' = ⟨trO p (tsoW p r.s k false).1 (doR p r.s R k false) Q r.es.length (r.es.map cEv) r.wm r.n, 60⟩) :=
  from_own (G := Tabs) p _ r.es r.wm r.n hR' hQ3 (by omega) k hkq hgk (r.W.getD k []) hok (by omega) (fun e he => by
   obtain ⟨j, x, g1, g2, g3, _⟩ := hq.ev k e he
   exact ⟨j, x, g1, g2, g3⟩) _
 rw [tr_plain hy hgk hd (by omega) (fun h => by omega), hev]
 clear hev
 generalize frmW r k (nextW p k y).addr = fr at *
 generalize nextW p k y = d at *
 obtain ⟨dk, da, dv⟩ := d
 simp only at k2 had
 subst k2
 generalize (tsoW p r.s k false).1 = s' at *
 generalize doR p r.s R k false = R' at *
 rcases place33 (l' := R) hQ3 hRQ hgk with ⟨rfl, rfl, _, rfl⟩ | ⟨_, rfl, rfl, _, _, rfl⟩ | ⟨_, rfl, rfl, _, _, rfl⟩ | ⟨_, _, rfl, rfl, _, _, _, rfl⟩ | ⟨_, _, rfl, rfl, _, _, _, rfl⟩ | ⟨_, _, rfl, rfl, _, _, _, rfl⟩
 all_goals rcases rows3 hR'3 with rfl | ⟨_, rfl⟩ | ⟨_, _, rfl⟩ | ⟨_, _, _, rfl⟩
 all_goals first | (exfalso; simp at hR'; done) | skip
 all_goals
  refine TC.at mixedOk F23 rfl fun C hP hG hp => goF ?_; simp only [F23, targEnv, Nat.zero_add, Nat.reduceAdd]
  repeat' (first | refine goR rfl ?_ | refine goS rfl ?_ | refine tret1 rfl ?_ | refine tretN rfl ?_ | refine gY rfl rfl ?_ | refine gN rfl rfl ?_ | refine qT rfl rfl ?_ | refine qF rfl rfl ?_ | refine tr_mcallXM hP hG (cst) rfl rfl rfl rfl rfl rfl rfl rfl rfl rfl rfl rfl ⟨mapI_froz _, trivial⟩ trivial ?_ | refine tr_mcallXM hP hG (cdo) rfl rfl rfl rfl rfl rfl rfl rfl rfl rfl rfl rfl ⟨mapI_froz _, trivial⟩ trivial ?_ | refine cA rfl (by rw [hP, hG]; exact cn) rfl ?_ | refine lT (tl_ixo rfl rfl rfl hkl) ?_ | refine lT (tl_ldE rfl rfl hyt rfl) ?_ | refine tr_append rfl rfl hml.symm (.inr (.inr ⟨_, _, _, _, rfl, rfl, rfl⟩)) (by simp only [List.length_cons, List.length_nil]; omega) rfl ?_ | refine tr_mcallXM hP hG (cf) rfl rfl rfl rfl rfl rfl rfl rfl rfl rfl rfl rfl ⟨mapI_froz _, trivial⟩ ⟨mapI_froz _, trivial⟩ ?_ | fail)
  exact tretXM 60 [0] rfl hp rfl rfl rfl rfl ⟨mapI_froz _, trivial⟩ ⟨rfl, rfl⟩
set_option maxHeartbeats 20000000 in
theorem do_1 (p : Prg) {r : Tr} {R : List Rg} {Q : List WQ} {m : Nat} (hW : trW p r R Q m) (k : Nat) {y : Thr} (hy : r.s.thr[k]? = some y) (hd : (tsoW p r.s k false).2 = true) (h0 : (nextW p k y).kind ≠ 0) (k2 : (nextW p k y).kind ≠ 2) (k3 : (nextW p k y).kind ≠ 3) (k4 : (nextW p k y).kind ≠ 4) :
  TC prog Tabs 23 [.p 0 0, .agg [tI k, tB false]] ⟨trC p r R Q, 60⟩ [0] (fun v σ' => v = .tup [] ∧ σ' = ⟨trC p (trS p r ((k : Int), false)) (doR p r.s R k false) (doQ p r Q k false), 60⟩) := by
 obtain ⟨ho, hc, hn, hmq, hmm, h3, hq, hQ, hes, hrn⟩ := id hW
 have hRQ : R.length = Q.length := by rw [hQ.1, hq.wl]; exact hmq.rg.len
 have hQ3 : Q.length ≤ 3 := by rw [hQ.1, hq.wl, hq.th]; exact h3
 have cst := tstate_own (G := Tabs) p _ hmq (by omega) (by have := hmq.memLen hc; omega) h3
 have cdo := tdo_own p ho hc _ hmq (by omega) h3 k false
 have hst := hmq.st
 have hlen := doR_len p r.s R k false
 simp only at cst cdo hst
 have hkl : k < r.s.thr.length := (List.getElem?_eq_some_iff.1 hy).1
 have hyt : (r.s.thr.map cThr)[k]? = some (cThr y) := by rw [List.getElem?_map, hy]; rfl
 have hyq := (hst.thr y (List.mem_of_getElem? hy)).r
 have hkq : k < Q.length := by rw [hQ.1, hq.wl]; exact hkl
 have hgk : Q[k]? = some Q[k] := List.getElem?_eq_getElem hkq
 have hok := hQ.2 k _ hgk
 generalize Q[k] = q at hgk hok
 have hbl : (bufAt r.s k).length ≤ m := hmq.bufAt k
 have hwl : (r.W.getD k []).length = (bufAt r.s k).length := by have := congrArg List.length (hq.bw k); rwa [lM, lM] at this
 have hml : (r.es.map cEv).length = r.es.length := lM ..
 rw [hd] at cdo
 have hR' : (doR p r.s R k false).length = Q.length := by rw [hlen]; exact hRQ
 have hR'3 : (doR p r.s R k false).length ≤ 3 := by omega
 have cn := next_spec p ho hc k y hyq
 have had := next_addr hc (t := k) (x := y)
 have hmw : mW p (r.s, R) ((k : Int), false) = ((tsoW p r.s k false).1, doR p r.s R k false) := rfl
 rw [hmw] at cdo
 simp only at cdo
 show TC prog Tabs 23 _ ⟨trO p r.s R Q r.es.length (r.es.map cEv) r.wm r.n, 60⟩ _ _
 have hk7 := nextW_kinds p k y
 have hev : cEv (evOf p r k y) = [tI k, tI y.pc, tI (nextW p k y).kind, tI (-1), tI (-1), tI (-1)] := by
  unfold evOf cEv
  simp only
  rw [if_neg (by omega), if_neg (by omega)]
 rw [tr_plain hy hgk hd k3 (fun h => k4 h.1), hev]
 clear hev
 generalize nextW p k y = d at *
 obtain ⟨dk, da, dv⟩ := d
 simp only at k2 k3 k4 h0 hk7 had
 have hk3 : dk = 1 ∨ dk = 5 ∨ dk = 6 := by omega
 generalize (tsoW p r.s k false).1 = s' at *
 generalize doR p r.s R k false = R' at *
 rcases hk3 with rfl | rfl | rfl
 all_goals
  rcases place33 (l' := R) hQ3 hRQ hgk with ⟨rfl, rfl, _, rfl⟩ | ⟨_, rfl, rfl, _, _, rfl⟩ | ⟨_, rfl, rfl, _, _, rfl⟩ | ⟨_, _, rfl, rfl, _, _, _, rfl⟩ | ⟨_, _, rfl, rfl, _, _, _, rfl⟩ | ⟨_, _, rfl, rfl, _, _, _, rfl⟩
  all_goals rcases rows3 hR'3 with rfl | ⟨_, rfl⟩ | ⟨_, _, rfl⟩ | ⟨_, _, _, rfl⟩
  all_goals first | (exfalso; simp at hR'; done) | skip
  all_goals
   refine TC.at mixedOk F23 rfl fun C hP hG hp => goF ?_; simp only [F23, targEnv, Nat.zero_add, Nat.reduceAdd]
   repeat' (first | refine goR rfl ?_ | refine goS rfl ?_ | refine tret1 rfl ?_ | refine tretN rfl ?_ | refine gY rfl rfl ?_ | refine gN rfl rfl ?_ | refine qT rfl rfl ?_ | refine qF rfl rfl ?_ | refine tr_mcallXM hP hG (cst) rfl rfl rfl rfl rfl rfl rfl rfl rfl rfl rfl rfl ⟨mapI_froz _, trivial⟩ trivial ?_ | refine tr_mcallXM hP hG (cdo) rfl rfl rfl rfl rfl rfl rfl rfl rfl rfl rfl rfl ⟨mapI_froz _, trivial⟩ trivial ?_ | refine cA rfl (by rw [hP, hG]; exact cn) rfl ?_ | refine lT (tl_ixo rfl rfl rfl hkl) ?_ | refine lT (tl_ldE rfl rfl hyt rfl) ?_ | refine tr_append rfl rfl hml.symm (.inr (.inr ⟨_, _, _, _, rfl, rfl, rfl⟩)) (by simp only [List.length_cons, List.length_nil]; omega) rfl ?_ | fail)
   exact tretXM 60 [0] rfl hp rfl rfl rfl rfl ⟨mapI_froz _, trivial⟩ ⟨rfl, rfl⟩
end
end Go.Proofs.YtpeifhiphfpajaaGreatDoor
