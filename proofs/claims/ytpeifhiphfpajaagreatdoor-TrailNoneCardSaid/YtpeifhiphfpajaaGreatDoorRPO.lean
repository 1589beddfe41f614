/-
  Walks of functions of the program, and what the laws need of them.
-/
import Derived.Test.YtpeifhiphfpajaaGreatDoorRPN
set_option linter.all false
set_option linter.unusedSimpArgs false
set_option linter.unusedVariables false
set_option linter.unnecessarySimpa false
namespace Go.Proofs.YtpeifhiphfpajaaGreatDoor
set_option maxRecDepth 20000
open Go Go.Proofs.YtpeifhiphfpajaaGreatDoor.V Go.Proofs
section
attribute [local irreducible] TwS TwR thenT inBlockT retT nextW localW loadedW swapW Rg.push Rg.pop tsoW doR stepB flushW
set_option maxHeartbeats 20000000 in
theorem do_3 (p : Prg) {r : Tr} {R : List Rg} {Q : List WQ} {m : Nat} (hW : trW p r R Q m) (k : Nat) {y : Thr} (hy : r.s.thr[k]? = some y) (hd : (tsoW p r.s k false).2 = true) (k3 : (nextW p k y).kind = 3) :
  TC prog Tabs 23 [.p 0 0, .agg [tI k, tB false]] ⟨trC p r R Q, 60⟩ [0] (fun v σ' => v = .tup [] ∧ σ' = ⟨trC p (trS p r ((k : Int), false)) (doR p r.s R k false) (doQ p r Q k false), 60⟩) := by
 obtain ⟨ho, hc, hn, hmq, hmm, h3, hq, hQ, hes, hrn⟩ := id hW
 have hRQ : R.length = Q.length := by rw [hQ.1, hq.wl]; exact hmq.rg.len
 have hQ3 : Q.length ≤ 3 := by rw [hQ.1, hq.wl, hq.th]; exact h3
 have cst := tstate_own (G := Tabs) p _ hmq (by omega) (by have := hmq.memLen hc; omega) h3
 have cdo := tdo_own p ho hc _ hmq (by omega) h3 k false
 have hst := hmq.st
 have hlen := doR_len p r.s R k false
 simp only at cst cdo hst
 have hkl : k < r.s.thr.length := (List.getElem?_eq_some_iff.1 hy).1
 have hyt : (r.s.thr.map cThr)[k]? = some (cThr y) := by rw [List.getElem?_map, hy]; rfl
 have hyq := (hst.thr y (List.mem_of_getElem? hy)).r
 have hkq : k < Q.length := by rw [hQ.1, hq.wl]; exact hkl
 have hgk : Q[k]? = some Q[k] := List.getElem?_eq_getElem hkq
 have hok := hQ.2 k _ hgk
 generalize Q[k] = q at hgk hok
 have hbl : (bufAt r.s k).length ≤ m := hmq.bufAt k
 have hwl : (r.W.getD k []).length = (bufAt r.s k).length := by have := congrArg List.length (hq.bw k); rwa [lM, lM] at this
 have hml : (r.es.map cEv).length = r.es.length := lM ..
 rw [hd] at cdo
 have hR' : (doR p r.s R k false).length = Q.length := by rw [hlen]; exact hRQ
 have hR'3 : (doR p r.s R k false).length ≤ 3 := by omega
 have cn := next_spec p ho hc k y hyq
 have had := next_addr hc (t := k) (x := y)
 have hmw : mW p (r.s, R) ((k : Int), false) = ((tsoW p r.s k false).1, doR p r.s R k false) := rfl
 rw [hmw] at cdo
 simp only at cdo
 show TC prog Tabs 23 _ ⟨trO p r.s R Q r.es.length (r.es.map cEv) r.wm r.n, 60⟩ _ _
 have hev : cEv (evOf p r k y) = [tI k, tI y.pc, tI 3, tI (nextW p k y).addr, tI (-1), tI (-1)] := by
  unfold evOf cEv
  simp only
  rw [if_pos (.inr (.inl k3)), if_neg (by omega), k3]
 have hfin : trC p (trS p r ((k : Int), false)) (doR p r.s R k false) (doQ p r Q k false) = trO p (tsoW p r.s k false).1 (doR p r.s R k false) (Q.set k ⟨q.xs.drop q.o ++ [cI r.es.length], 0, q.n + 1⟩) (r.es.length + 1) (r.es.map cEv ++ [cEv (evOf p r k y)]) r.wm r.n := by
  have hes1 : (r.es ++ [evOf p r k y]).map cEv = r.es.map cEv ++ [cEv (evOf p r k y)] := List.map_append
  have hel1 : (r.es ++ [evOf p r k y]).length = r.es.length + 1 := lA
  rw [trS_s2 hy hd, doQ_s hy hgk hd, if_pos k3, ← hes1, ← hel1]
  unfold doT
  simp only [Bool.false_eq_true, if_false]
  rw [if_pos (show (evOf p r k y).kind = 3 from k3)]
  rfl
 rw [hfin, hev]
 clear hfin hev
 obtain ⟨q1, q2, q3⟩ := id hok
 generalize nextW p k y = d at *
 obtain ⟨dk, da, dv⟩ := d
 simp only at k3 had
 subst k3
 generalize (tsoW p r.s k false).1 = s' at *
 generalize doR p r.s R k false = R' at *
 rcases place33 (l' := R) hQ3 hRQ hgk with ⟨rfl, rfl, _, rfl⟩ | ⟨_, rfl, rfl, _, _, rfl⟩ | ⟨_, rfl, rfl, _, _, rfl⟩ | ⟨_, _, rfl, rfl, _, _, _, rfl⟩ | ⟨_, _, rfl, rfl, _, _, _, rfl⟩ | ⟨_, _, rfl, rfl, _, _, _, rfl⟩
 all_goals rcases rows3 hR'3 with rfl | ⟨_, rfl⟩ | ⟨_, _, rfl⟩ | ⟨_, _, _, rfl⟩
 all_goals first | (exfalso; simp at hR'; done) | skip
 all_goals
  refine TC.at mixedOk F23 rfl fun C hP hG hp => goF ?_; simp only [F23, targEnv, Nat.zero_add, Nat.reduceAdd]
  repeat' (first | refine goR rfl ?_ | refine goS rfl ?_ | refine tret1 rfl ?_ | refine tretN rfl ?_ | refine gY rfl rfl ?_ | refine gN rfl rfl ?_ | refine qT rfl rfl ?_ | refine qF rfl rfl ?_ | refine tr_mcallXM hP hG (cst) rfl rfl rfl rfl rfl rfl rfl rfl rfl rfl rfl rfl ⟨mapI_froz _, trivial⟩ trivial ?_ | refine tr_mcallXM hP hG (cdo) rfl rfl rfl rfl rfl rfl rfl rfl rfl rfl rfl rfl ⟨mapI_froz _, trivial⟩ trivial ?_ | refine cA rfl (by rw [hP, hG]; exact cn) rfl ?_ | refine lT (tl_ixo rfl rfl rfl hkl) ?_ | refine lT (tl_ldE rfl rfl hyt rfl) ?_ | refine tr_append rfl rfl hml.symm (.inr (.inr ⟨_, _, _, _, rfl, rfl, rfl⟩)) (by simp only [List.length_cons, List.length_nil]; omega) rfl ?_ | refine lT (tl_ixo rfl rfl rfl (Nat.le_of_ble_eq_true rfl)) ?_ | refine lT (tl_ldEC rfl rfl rfl) ?_ | refine tr_appendO rfl rfl q2.symm (.inr (.inr ⟨_, _, _, _, rfl, rfl, rfl⟩)) (by simp) (by simp only [List.length_cons, List.length_nil]; omega) rfl ?_ | refine tr_storeEC rfl rfl rfl rfl rfl rfl rfl ?_ | fail)
  exact tretXM 60 [0] rfl hp rfl rfl rfl rfl ⟨mapI_froz _, trivial⟩ ⟨rfl, rfl⟩
end
end Go.Proofs.YtpeifhiphfpajaaGreatDoor
