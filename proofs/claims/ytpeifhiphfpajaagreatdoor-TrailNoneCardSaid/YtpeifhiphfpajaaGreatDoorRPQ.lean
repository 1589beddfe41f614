/-
  Walks of functions of the program, and what the laws need of them.
-/
import Derived.Test.YtpeifhiphfpajaaGreatDoorRPN
import Derived.Test.YtpeifhiphfpajaaGreatDoorRPO
import Derived.Test.YtpeifhiphfpajaaGreatDoorRPM
set_option linter.all false
set_option linter.unusedSimpArgs false
set_option linter.unusedVariables false
set_option linter.unnecessarySimpa false
namespace Go.Proofs.YtpeifhiphfpajaaGreatDoor
set_option maxRecDepth 20000
open Go Go.Proofs.YtpeifhiphfpajaaGreatDoor.V Go.Proofs
section
attribute [local irreducible] TwS TwR thenT inBlockT retT nextW localW loadedW swapW Rg.push Rg.pop tsoW doR stepB flushW
set_option maxHeartbeats 20000000 in
theorem do_4 (p : Prg) {r : Tr} {R : List Rg} {Q : List WQ} {m : Nat} (hW : trW p r R Q m) (k : Nat) {y : Thr} (hy : r.s.thr[k]? = some y) (hd : (tsoW p r.s k false).2 = true) (k4 : (nextW p k y).kind = 4) :
  TC prog Tabs 23 [.p 0 0, .agg [tI k, tB false]] ⟨trC p r R Q, 60⟩ [0] (fun v σ' => v = .tup [] ∧ σ' = ⟨trC p (trS p r ((k : Int), false)) (doR p r.s R k false) (doQ p r Q k false), 60⟩) := by
 obtain ⟨ho, hc, hn, hmq, hmm, h3, hq, hQ, hes, hrn⟩ := id hW
 have hRQ : R.length = Q.length := by rw [hQ.1, hq.wl]; exact hmq.rg.len
 have hQ3 : Q.length ≤ 3 := by rw [hQ.1, hq.wl, hq.th]; exact h3
 have cst := tstate_own (G := Tabs) p _ hmq (by omega) (by have := hmq.memLen hc; omega) h3
 have cdo := tdo_own p ho hc _ hmq (by omega) h3 k false
 have hst := hmq.st
 have hlen := doR_len p r.s R k false
 simp only at cst cdo hst
 have hkl : k < r.s.thr.length := (List.getElem?_eq_some_iff.1 hy).1
 have hyt : (r.s.thr.map cThr)[k]? = some (cThr y) := by rw [List.getElem?_map, hy]; rfl
 have hyq := (hst.thr y (List.mem_of_getElem? hy)).r
 have hkq : k < Q.length := by rw [hQ.1, hq.wl]; exact hkl
 have hgk : Q[k]? = some Q[k] := List.getElem?_eq_getElem hkq
 have hok := hQ.2 k _ hgk
 generalize Q[k] = q at hgk hok
 have hbl : (bufAt r.s k).length ≤ m := hmq.bufAt k
 have hwl : (r.W.getD k []).length = (bufAt r.s k).length := by have := congrArg List.length (hq.bw k); rwa [lM, lM] at this
 have hml : (r.es.map cEv).length = r.es.length := lM ..
 rw [hd] at cdo
 have hR' : (doR p r.s R k false).length = Q.length := by rw [hlen]; exact hRQ
 have hR'3 : (doR p r.s R k false).length ≤ 3 := by omega
 have cn := next_spec p ho hc k y hyq
 have had := next_addr hc (t := k) (x := y)
 have hmw : mW p (r.s, R) ((k : Int), false) = ((tsoW p r.s k false).1, doR p r.s R k false) := rfl
 rw [hmw] at cdo
 simp only at cdo
 show TC prog Tabs 23 _ ⟨trO p r.s R Q r.es.length (r.es.map cEv) r.wm r.n, 60⟩ _ _
 obtain ⟨a1, a2⟩ := had (.inr (.inr k4))
 obtain ⟨ad, had2⟩ : ∃ ad : Nat, (nextW p k y).addr = ad := ⟨(nextW p k y).addr.toNat, (Int.toNat_of_nonneg a1).symm⟩
 have hal : ad < r.s.mem.length := by rw [hq.len]; omega
 have hag : (r.s.mem.map fun n => [tI n])[ad]? = some [tI (rdM r.s ad)] := by
  rw [List.getElem?_map, rdM, Int.toNat_natCast, List.getD_eq_getElem?_getD, List.getElem?_eq_getElem hal]; rfl
 have csw := swap_spec p ho hc k y hyq (rdM r.s ad)
 have hev : cEv (evOf p r k y) = [tI k, tI y.pc, tI 4, tI ad, tI (frmW r k ad), tI (-1)] := by
  unfold evOf cEv
  simp only
  rw [if_pos (.inr (.inr k4)), if_pos (.inr k4), k4, had2]
 have hea : (evOf p r k y).addr = ad := by
  unfold evOf
  simp only
  rw [if_pos (.inr (.inr k4)), had2]
 have cf : TC prog Tabs 55 [.p 0 0, tI k, tI ad] ⟨trO p (tsoW p r.s k false).1 (doR p r.s R k false) Q r.es.length (r.es.map cEv) r.wm r.n, 60⟩ [0] (fun v σ' => v = tI (frmW r k ad) ∧ σ' = ⟨trO p (tsoW p r.s k false).1 (doR p r.s R k false) Q r.es.length (r.es.map cEv) r.wm r.n, 60⟩) :=
  from_own (G := Tabs) p _ r.es r.wm r.n hR' hQ3 (by omega) k hkq hgk (r.W.getD k []) hok (by omega) (fun e he => by
   obtain ⟨j, x, g1, g2, g3, _⟩ := hq.ev k e he
   exact ⟨j, x, g1, g2, g3⟩) _
 have hel : (r.es.map cEv ++ [cEv (evOf p r k y)]).length = r.es.length + 1 := by rw [lA, hml]; rfl
 have hlast : (r.es.map cEv ++ [cEv (evOf p r k y)])[r.es.length]? = some (cEv (evOf p r k y)) := by rw [← hml, List.getElem?_append_right (Nat.le_refl _), Nat.sub_self]; rfl
 have cw := write_own (G := Tabs) p (tsoW p r.s k false).1 (R := doR p r.s R k false) (Q := Q) (r.es.length + 1) (r.es.map cEv ++ [cEv (evOf p r k y)]) r.wm r.n hR' hQ3 (by omega) r.es.length (e := evOf p r k y) hel.symm hlast
 cases hw : (swapW p k y (rdM r.s ad)).2.2 with
 | false =>
  rw [tr_plain hy hgk hd (by omega) (fun h => by rw [hea, hw] at h; exact absurd h.2 (by decide)), hev]
  clear hev hea cw hel hlast
  generalize frmW r k ad = fr at *
  generalize nextW p k y = d at *
  obtain ⟨dk, da, dv⟩ := d
  simp only at k4 had2
  subst k4 had2
  generalize swapW p k y (rdM r.s ad) = w at *
  obtain ⟨y2, v2, b2⟩ := w
  simp only at hw
  subst hw
  generalize rdM r.s ad = u at *
  generalize (tsoW p r.s k false).1 = s' at *
  generalize doR p r.s R k false = R' at *
  rcases place33 (l' := R) hQ3 hRQ hgk with ⟨rfl, rfl, _, rfl⟩ | ⟨_, rfl, rfl, _, _, rfl⟩ | ⟨_, rfl, rfl, _, _, rfl⟩ | ⟨_, _, rfl, rfl, _, _, _, rfl⟩ | ⟨_, _, rfl, rfl, _, _, _, rfl⟩ | ⟨_, _, rfl, rfl, _, _, _, rfl⟩
  all_goals rcases rows3 hR'3 with rfl | ⟨_, rfl⟩ | ⟨_, _, rfl⟩ | ⟨_, _, _, rfl⟩
  all_goals first | (exfalso; simp at hR'; done) | skip
  all_goals
   refine TC.at mixedOk F23 rfl fun C hP hG hp => goF ?_; simp only [F23, targEnv, Nat.zero_add, Nat.reduceAdd]
   repeat' (first | refine goR rfl ?_ | refine goS rfl ?_ | refine tret1 rfl ?_ | refine tretN rfl ?_ | refine gY rfl rfl ?_ | refine gN rfl rfl ?_ | refine qT rfl rfl ?_ | refine qF rfl rfl ?_ | refine tr_mcallXM hP hG (cst) rfl rfl rfl rfl rfl rfl rfl rfl rfl rfl rfl rfl ⟨mapI_froz _, trivial⟩ trivial ?_ | refine tr_mcallXM hP hG (cdo) rfl rfl rfl rfl rfl rfl rfl rfl rfl rfl rfl rfl ⟨mapI_froz _, trivial⟩ trivial ?_ | refine cA rfl (by rw [hP, hG]; exact cn) rfl ?_ | refine lT (tl_ixo rfl rfl rfl hkl) ?_ | refine lT (tl_ldE rfl rfl hyt rfl) ?_ | refine tr_append rfl rfl hml.symm (.inr (.inr ⟨_, _, _, _, rfl, rfl, rfl⟩)) (by simp only [List.length_cons, List.length_nil]; omega) rfl ?_ | refine lT (tl_ixo (m := ad) rfl rfl rfl hal) ?_ | refine lT (tl_ldE rfl rfl hag rfl) ?_ | refine cA rfl (by rw [hP, hG]; exact csw) rfl ?_ | refine tr_mcallXM hP hG (cf) rfl rfl rfl rfl rfl rfl rfl rfl rfl rfl rfl rfl ⟨mapI_froz _, trivial⟩ ⟨mapI_froz _, trivial⟩ ?_ | fail)
   exact tretXM 60 [0] rfl hp rfl rfl rfl rfl ⟨mapI_froz _, trivial⟩ ⟨rfl, rfl⟩
 | true =>
  have hfin : trC p (trS p r ((k : Int), false)) (doR p r.s R k false) (doQ p r Q k false) = trO p (tsoW p r.s k false).1 (doR p r.s R k false) Q (r.es.length + 1) ((r.es.map cEv ++ [cEv (evOf p r k y)]).set r.es.length (cEv { evOf p r k y with place := r.n })) (putI (evOf p r k y).addr r.es.length r.wm) ((r.n + 1 : Nat) : Int) := by
   have hes1 : (r.es ++ [evOf p r k y]).map cEv = r.es.map cEv ++ [cEv (evOf p r k y)] := List.map_append
   have hel1 : (r.es ++ [evOf p r k y]).length = r.es.length + 1 := lA
   have hl2 : (r.es ++ [evOf p r k y])[r.es.length]? = some (evOf p r k y) := by rw [List.getElem?_append_right (Nat.le_refl _), Nat.sub_self]; rfl
   rw [trS_s2 hy hd, doQ_s hy hgk hd, if_neg (by omega), ← hes1, ← hel1, ← setP_map _ hl2, ← setP_len (r.es ++ [evOf p r k y]) r.es.length r.n]
   unfold doT
   simp only [Bool.false_eq_true, if_false]
   rw [if_neg (show ¬ (evOf p r k y).kind = 3 from fun h => by have : (nextW p k y).kind = 3 := h; omega), if_pos (show (evOf p r k y).kind = 4 ∧ _ from ⟨k4, by rw [hea]; exact hw⟩)]
   rfl
  have hev2 : cEv { evOf p r k y with place := r.n } = [tI k, tI y.pc, tI 4, tI ad, tI (frmW r k ad), tI r.n] := by
   unfold evOf cEv
   simp only
   rw [if_pos (.inr (.inr k4)), if_pos (.inr k4), k4, had2]
  rw [hfin]
  rw [hev, hev2, hea] at cw ⊢
  clear hfin hev hev2 hea hel hlast
  generalize frmW r k ad = fr at *
  generalize nextW p k y = d at *
  obtain ⟨dk, da, dv⟩ := d
  simp only at k4 had2
  subst k4 had2
  generalize swapW p k y (rdM r.s ad) = w at *
  obtain ⟨y2, v2, b2⟩ := w
  simp only at hw
  subst hw
  generalize rdM r.s ad = u at *
  generalize (tsoW p r.s k false).1 = s' at *
  generalize doR p r.s R k false = R' at *
  rcases place33 (l' := R) hQ3 hRQ hgk with ⟨rfl, rfl, _, rfl⟩ | ⟨_, rfl, rfl, _, _, rfl⟩ | ⟨_, rfl, rfl, _, _, rfl⟩ | ⟨_, _, rfl, rfl, _, _, _, rfl⟩ | ⟨_, _, rfl, rfl, _, _, _, rfl⟩ | ⟨_, _, rfl, rfl, _, _, _, rfl⟩
  all_goals rcases rows3 hR'3 with rfl | ⟨_, rfl⟩ | ⟨_, _, rfl⟩ | ⟨_, _, _, rfl⟩
  all_goals first | (exfalso; simp at hR'; done) | skip
  all_goals
   refine TC.at mixedOk F23 rfl fun C hP hG hp => goF ?_; simp only [F23, targEnv, Nat.zero_add, Nat.reduceAdd]
   repeat' (first | refine goR rfl ?_ | refine goS rfl ?_ | refine tret1 rfl ?_ | refine tretN rfl ?_ | refine gY rfl rfl ?_ | refine gN rfl rfl ?_ | refine qT rfl rfl ?_ | refine qF rfl rfl ?_ | refine tr_mcallXM hP hG (cst) rfl rfl rfl rfl rfl rfl rfl rfl rfl rfl rfl rfl ⟨mapI_froz _, trivial⟩ trivial ?_ | refine tr_mcallXM hP hG (cdo) rfl rfl rfl rfl rfl rfl rfl rfl rfl rfl rfl rfl ⟨mapI_froz _, trivial⟩ trivial ?_ | refine cA rfl (by rw [hP, hG]; exact cn) rfl ?_ | refine lT (tl_ixo rfl rfl rfl hkl) ?_ | refine lT (tl_ldE rfl rfl hyt rfl) ?_ | refine tr_append rfl rfl hml.symm (.inr (.inr ⟨_, _, _, _, rfl, rfl, rfl⟩)) (by simp only [List.length_cons, List.length_nil]; omega) rfl ?_ | refine lT (tl_ixo (m := ad) rfl rfl rfl hal) ?_ | refine lT (tl_ldE rfl rfl hag rfl) ?_ | refine cA rfl (by rw [hP, hG]; exact csw) rfl ?_ | refine tr_mcallXM hP hG (cf) rfl rfl rfl rfl rfl rfl rfl rfl rfl rfl rfl rfl ⟨mapI_froz _, trivial⟩ ⟨mapI_froz _, trivial⟩ ?_ | refine tr_mcallXM hP hG (cw) rfl rfl rfl rfl rfl rfl rfl rfl rfl rfl rfl rfl ⟨mapI_froz _, trivial⟩ ⟨mapI_froz _, trivial⟩ ?_ | fail)
   exact tretXM 60 [0] rfl hp rfl rfl rfl rfl ⟨mapI_froz _, trivial⟩ ⟨rfl, rfl⟩
end
end Go.Proofs.YtpeifhiphfpajaaGreatDoor
namespace Go.Proofs.YtpeifhiphfpajaaGreatDoor
set_option maxRecDepth 20000
open Go Go.Proofs.YtpeifhiphfpajaaGreatDoor.V Go.Proofs
theorem do_own (p : Prg) {c : Tr × List Rg × List WQ} {m : Nat} (h : trV p c m) (hm : m ≤ 1000) (x : Pk) :
  TC prog Tabs 23 [.p 0 0, .agg [tI x.1, tB x.2]] ⟨trC p c.1 c.2.1 c.2.2, 60⟩ [0] (fun v σ' => v = .tup [] ∧ σ' = ⟨trC p (tmW p c x).1 (tmW p c x).2.1 (tmW p c x).2.2, 60⟩) := by
 have hW := h.to hm
 obtain ⟨t, f⟩ := x
 cases hd : (tsoW p c.1.s t f).2 with
 | false => exact do_no p hW t f hd
 | true =>
  have ht : 0 ≤ t ∧ t < (c.1.s.thr.length : Int) := Classical.byContradiction fun h => by rw [tsoW_out h] at hd; cases hd
  obtain ⟨k, rfl⟩ : ∃ k : Nat, t = k := ⟨t.toNat, by omega⟩
  have hkl : k < c.1.s.thr.length := by omega
  have hy : c.1.s.thr[k]? = some c.1.s.thr[k] := List.getElem?_eq_getElem hkl
  cases f with
  | true => exact do_f p hW k hy hd
  | false =>
   by_cases k0 : (nextW p k c.1.s.thr[k]).kind = 0
   ·rw [tsoW_s hy, stepB_0 k0] at hd; cases hd
   by_cases k2 : (nextW p k c.1.s.thr[k]).kind = 2
   ·exact do_2 p hW k hy hd k2
   by_cases k3 : (nextW p k c.1.s.thr[k]).kind = 3
   ·exact do_3 p hW k hy hd k3
   by_cases k4 : (nextW p k c.1.s.thr[k]).kind = 4
   ·exact do_4 p hW k hy hd k4
   ·exact do_1 p hW k hy hd k0 k2 k3 k4
end Go.Proofs.YtpeifhiphfpajaaGreatDoor
