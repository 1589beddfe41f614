/-
  Walks of functions of the program, and what the laws need of them.
-/
import Derived.Test.YtphcaohldmdglaaGreatDoorRPI
import Derived.Test.YtphcaohldmdglaaGreatDoorRPH
set_option linter.all false
set_option linter.unusedSimpArgs false
set_option linter.unusedVariables false
set_option linter.unnecessarySimpa false
namespace Go.Proofs.YtphcaohldmdglaaGreatDoor
set_option maxRecDepth 20000
open Go Go.Proofs.YtphcaohldmdglaaGreatDoor.V Go.Proofs
def tsM (p : Prg) (s : State) (R : List Rg) (k : Nat) : List (Nat × TObj) := (k, .cells [.fp (cCore p) 0, .s (k + 1) 1 0 s.mem.length true, .s (k + 2) 16 0 s.thr.length true, .s (k + 3) 1 0 R.length true] ty_tso_Machine) :: (k + 1, memT s) :: (k + 2, thrT s) :: (k + 3, bufsO (k + 4) R) :: ringsO (k + 4) R
section
attribute [local irreducible] TwS TwR thenT inBlockT retT nextW localW loadedW swapW Rg.push Rg.pop
variable {G : World → Prop}
set_option maxHeartbeats 20000000 in
theorem tstep_own (p : Prg) (ho : okP p) (hc : checkC p = 0) (s : State) (hq : stQ p s) (R : List Rg) {m : Nat} (hr : rgQ s R m) (hm : m ≤ 1000000) (hl3 : s.thr.length ≤ 3) (k : Nat) (x : Thr) (hx : s.thr[k]? = some x) :
  TC prog Tabs n_tso_Machine_step [.p 0 0, tI k] ⟨tsM p s R 0, 20⟩ [0] (fun v σ' => v = tB (stepB p s k x).2 ∧ σ' = ⟨tsM p (stepB p s k x).1 (doR p s R k false) 0, 20⟩) := by
 obtain ⟨r, hrk⟩ := hr.has hx
 have hb := hr.at hrk
 have hrm := List.mem_of_getElem? hrk
 have hrok := hr.ok r hrm
 obtain ⟨hrn, hrl⟩ := hr.few r hrm
 have hxq := hq.thr x (List.mem_of_getElem? hx)
 have hxt : (s.thr.map cThr)[k]? = some (cThr x) := by rw [List.getElem?_map, hx]; rfl
 have hkl : k < s.thr.length := (List.getElem?_eq_some_iff.1 hx).1
 have c1 := next_spec p ho hc k x hxq.r
 have c2 := localP_spec p ho hc k x hxq.r
 have c3 := fun v => loaded_spec p ho hc k x hxq.r v
 have c4 := fun v => swap_spec p ho hc k x hxq.r v
 have hadr := next_addr hc (t := k) (x := x)
 have d1 := fun G => rlen_spec (G := G) r
 have hrd : ∀ (h : (nextW p k x).kind = 2 ∨ (nextW p k x).kind = 3 ∨ (nextW p k x).kind = 4), ∃ a : Nat, (nextW p k x).addr = a ∧ a < s.mem.length ∧ (s.mem.map fun n => [tI n])[a]? = some [tI (rdM s (nextW p k x).addr)] := fun h => by
  obtain ⟨h1, h2⟩ := hadr h
  rw [← hq.len] at h2
  refine ⟨(nextW p k x).addr.toNat, by omega, by omega, ?_⟩
  rw [List.getElem?_map, rdM, List.getD_eq_getElem?_getD, List.getElem?_eq_getElem (by omega)]
  rfl
 have hr0 : r.n = 0 ↔ r.list = [] := Rg.len0
 have hRl : R.length ≤ 3 := by have := hr.len; omega
 have hpl := place3 hRl hrk
 have hk7 := nextW_kinds p k x
 generalize hnx : nextW p k x = d at *
 obtain ⟨dk, da, dv⟩ := d
 simp only at hadr hrd hk7
 by_cases k0 : dk = 0
 ·rw [stepB_0 (by rw [hnx]; exact k0), doR_n hx hrk (by rw [hnx]; show dk ≠ 3; omega)]
  subst k0
  clear hadr hrd c2 c3 c4 hk7 hnx
  rcases hpl with ⟨rfl, rfl⟩ | ⟨b, rfl, rfl⟩ | ⟨b, rfl, rfl⟩ | ⟨b, c, rfl, rfl⟩ | ⟨b, c, rfl, rfl⟩ | ⟨b, c, rfl, rfl⟩
  all_goals
   refine TC.of mixedOk (fn := f_tso_Machine_step) (by kernel_rfl) (by kernel_rfl) ok_tso_Machine_step rfl fun C hP hG hp => goF ?_; simp only [fs_tso_Machine_step, targEnv, Nat.zero_add, Nat.reduceAdd]
   repeat' (first | refine goR rfl ?_ | refine goS rfl ?_ | refine tret1 rfl ?_ | refine tretN rfl ?_ | refine gY rfl rfl ?_ | refine gN rfl rfl ?_ | refine qT rfl rfl ?_ | refine qF rfl rfl ?_ | refine lT (tl_ixo rfl rfl rfl hkl) ?_ | refine lT (tl_ixo rfl rfl rfl (Nat.le_of_ble_eq_true rfl)) ?_ | refine lT (tl_ldE rfl rfl hxt rfl) ?_ | refine lT (tl_ldEC rfl rfl rfl) ?_ | refine tr_storeE rfl rfl hxt rfl rfl rfl rfl rfl rfl ?_ | refine cA rfl (by rw [hP, hG]; exact c1) rfl ?_ | fail)
   first | exact tretX 20 [0] rfl hp rfl rfl rfl rfl ⟨rfl, rfl⟩ | (refine tretX 20 [0] rfl hp rfl rfl rfl rfl ⟨rfl, ?_⟩; simp only [tsM, ringsO, bufsO, ptrsR, memT, thrT, List.length_set, List.map_set, List.set_cons_zero, List.set_cons_succ, List.length_cons, List.length_nil, Nat.zero_add, Nat.reduceAdd] <;> rfl)
 by_cases k2 : dk = 2
 ·obtain ⟨a, ha, hal, hag⟩ := hrd (.inl k2)
  rw [stepB_2 (by rw [hnx]; exact k2), doR_n hx hrk (by rw [hnx]; show dk ≠ 3; omega)]
  rw [hnx]
  have d2 := fun G => rlast_spec (G := G) r hrok (by omega) a
  subst ha k2
  simp only
  have hsn : seenW s k (a : Int) = (lastE r.list a).getD (rdM s a) := by unfold seenW; rw [hb]
  generalize seenW s k (a : Int) = v at hsn ⊢
  have c3 := c3 v
  generalize loadedW p (k : Int) x v = y at c3 ⊢
  clear hadr hrd c2 c4 hk7 hnx
  generalize rdM s (a : Int) = w at *
  generalize lastE r.list (a : Int) = o at *
  cases o
  all_goals
   simp only [Option.getD_none, Option.getD_some] at hsn
   subst hsn
   rcases hpl with ⟨rfl, rfl⟩ | ⟨b, rfl, rfl⟩ | ⟨b, rfl, rfl⟩ | ⟨b, c, rfl, rfl⟩ | ⟨b, c, rfl, rfl⟩ | ⟨b, c, rfl, rfl⟩
  all_goals
   refine TC.of mixedOk (fn := f_tso_Machine_step) (by kernel_rfl) (by kernel_rfl) ok_tso_Machine_step rfl fun C hP hG hp => goF ?_; simp only [fs_tso_Machine_step, targEnv, Nat.zero_add, Nat.reduceAdd]
   repeat' (first | refine goR rfl ?_ | refine goS rfl ?_ | refine tret1 rfl ?_ | refine tretN rfl ?_ | refine gY rfl rfl ?_ | refine gN rfl rfl ?_ | refine qT rfl rfl ?_ | refine qF rfl rfl ?_ | refine lT (tl_ixo rfl rfl rfl hkl) ?_ | refine lT (tl_ixo rfl rfl rfl (Nat.le_of_ble_eq_true rfl)) ?_ | refine lT (tl_ldE rfl rfl hxt rfl) ?_ | refine lT (tl_ldEC rfl rfl rfl) ?_ | refine tr_storeE rfl rfl hxt rfl rfl rfl rfl rfl rfl ?_ | refine cA rfl (by rw [hP, hG]; exact c1) rfl ?_ | refine lT (tl_ixo (m := a) rfl rfl rfl hal) ?_ | refine lT (tl_ldE rfl rfl hag rfl) ?_ | refine tr_storeE rfl rfl hag rfl rfl rfl rfl rfl rfl ?_ | refine cA rfl (by rw [hP, hG]; exact c3) rfl ?_ | refine tr_callV hP hG (d1 _) rfl (by (repeat' first | exact FzL.nil | refine FzL.cons ?_ ?_ | exact Fz.fr rfl | exact Fz.nil _ | exact Fz.s _ _ _ _ _ _ rfl (lM ..).symm | exact Fz.s _ _ _ _ _ _ rfl rfl | refine Fz.pL rfl ?_ | refine Fz.aggL ?_); first | done | fail) rfl ?_ | refine tr_callV hP hG (d2 _) rfl (by (repeat' first | exact FzL.nil | refine FzL.cons ?_ ?_ | exact Fz.fr rfl | exact Fz.nil _ | exact Fz.s _ _ _ _ _ _ rfl (lM ..).symm | exact Fz.s _ _ _ _ _ _ rfl rfl | refine Fz.pL rfl ?_ | refine Fz.aggL ?_); first | done | fail) rfl ?_ | fail)
   first | exact tretX 20 [0] rfl hp rfl rfl rfl rfl ⟨rfl, rfl⟩ | (refine tretX 20 [0] rfl hp rfl rfl rfl rfl ⟨rfl, ?_⟩; simp only [tsM, ringsO, bufsO, ptrsR, memT, thrT, List.length_set, List.map_set, List.set_cons_zero, List.set_cons_succ, List.length_cons, List.length_nil, Nat.zero_add, Nat.reduceAdd] <;> rfl)
 by_cases k3 : dk = 3
 ·obtain ⟨a, ha, hal, hag⟩ := hrd (.inr (.inl k3))
  rw [stepB_3 (by rw [hnx]; exact k3), doR_3 hx hrk (by rw [hnx]; exact k3)]
  rw [hnx]
  have d3 := rpush_own (G := Tabs) r hrok (by omega) ⟨a, dv⟩
  subst ha k3
  simp only
  generalize bufAt s k ++ _ = bb
  generalize localW p k x = y at *
  generalize r.push ⟨a, dv⟩ = r' at *
  clear hadr hrd c3 c4 hk7 hnx
  rcases hpl with ⟨rfl, rfl⟩ | ⟨b, rfl, rfl⟩ | ⟨b, rfl, rfl⟩ | ⟨b, c, rfl, rfl⟩ | ⟨b, c, rfl, rfl⟩ | ⟨b, c, rfl, rfl⟩
  all_goals
   refine TC.of mixedOk (fn := f_tso_Machine_step) (by kernel_rfl) (by kernel_rfl) ok_tso_Machine_step rfl fun C hP hG hp => goF ?_; simp only [fs_tso_Machine_step, targEnv, Nat.zero_add, Nat.reduceAdd]
   repeat' (first | refine goR rfl ?_ | refine goS rfl ?_ | refine tret1 rfl ?_ | refine tretN rfl ?_ | refine gY rfl rfl ?_ | refine gN rfl rfl ?_ | refine qT rfl rfl ?_ | refine qF rfl rfl ?_ | refine lT (tl_ixo rfl rfl rfl hkl) ?_ | refine lT (tl_ixo rfl rfl rfl (Nat.le_of_ble_eq_true rfl)) ?_ | refine lT (tl_ldE rfl rfl hxt rfl) ?_ | refine lT (tl_ldEC rfl rfl rfl) ?_ | refine tr_storeE rfl rfl hxt rfl rfl rfl rfl rfl rfl ?_ | refine cA rfl (by rw [hP, hG]; exact c1) rfl ?_ | refine cA rfl (by rw [hP, hG]; exact c2) rfl ?_ | refine tr_callV hP hG (d1 _) rfl (by (repeat' first | exact FzL.nil | refine FzL.cons ?_ ?_ | exact Fz.fr rfl | exact Fz.nil _ | exact Fz.s _ _ _ _ _ _ rfl (lM ..).symm | exact Fz.s _ _ _ _ _ _ rfl rfl | refine Fz.pL rfl ?_ | refine Fz.aggL ?_); first | done | fail) rfl ?_ | refine tr_mcallX hP hG (d3) rfl rfl rfl rfl rfl rfl rfl rfl rfl rfl rfl rfl ?_ | fail)
   first | exact tretX 20 [0] rfl hp rfl rfl rfl rfl ⟨rfl, rfl⟩ | (refine tretX 20 [0] rfl hp rfl rfl rfl rfl ⟨rfl, ?_⟩; simp only [tsM, ringsO, bufsO, ptrsR, memT, thrT, List.length_set, List.map_set, List.set_cons_zero, List.set_cons_succ, List.length_cons, List.length_nil, Nat.zero_add, Nat.reduceAdd] <;> rfl)
 have hd3 := doR_n (p := p) hx hrk (by rw [hnx]; exact k3)
 rw [hd3]
 by_cases kw : (dk = 4 ∨ dk = 5) ∧ r.n ≠ 0
 ·rw [stepB_w (by rw [hnx]; exact kw.1) (by rw [hb]; exact fun h => kw.2 (hr0.2 h))]
  obtain ⟨kw, kn⟩ := kw
  have kn : decide ((r.n : Int) > 0) = true := dT (by omega)
  clear hadr hrd c2 c3 c4 hk7 hnx
  rcases kw with rfl | rfl
  all_goals
   rcases hpl with ⟨rfl, rfl⟩ | ⟨b, rfl, rfl⟩ | ⟨b, rfl, rfl⟩ | ⟨b, c, rfl, rfl⟩ | ⟨b, c, rfl, rfl⟩ | ⟨b, c, rfl, rfl⟩
  all_goals
   refine TC.of mixedOk (fn := f_tso_Machine_step) (by kernel_rfl) (by kernel_rfl) ok_tso_Machine_step rfl fun C hP hG hp => goF ?_; simp only [fs_tso_Machine_step, targEnv, Nat.zero_add, Nat.reduceAdd]
   repeat' (first | refine goR rfl ?_ | refine goS rfl ?_ | refine tret1 rfl ?_ | refine tretN rfl ?_ | refine gY rfl rfl ?_ | refine gN rfl rfl ?_ | refine qT rfl rfl ?_ | refine qF rfl rfl ?_ | refine lT (tl_ixo rfl rfl rfl hkl) ?_ | refine lT (tl_ixo rfl rfl rfl (Nat.le_of_ble_eq_true rfl)) ?_ | refine lT (tl_ldE rfl rfl hxt rfl) ?_ | refine lT (tl_ldEC rfl rfl rfl) ?_ | refine tr_storeE rfl rfl hxt rfl rfl rfl rfl rfl rfl ?_ | refine cA rfl (by rw [hP, hG]; exact c1) rfl ?_ | refine tr_callV hP hG (d1 _) rfl (by (repeat' first | exact FzL.nil | refine FzL.cons ?_ ?_ | exact Fz.fr rfl | exact Fz.nil _ | exact Fz.s _ _ _ _ _ _ rfl (lM ..).symm | exact Fz.s _ _ _ _ _ _ rfl rfl | refine Fz.pL rfl ?_ | refine Fz.aggL ?_); first | done | fail) rfl ?_ | refine qT rfl kn ?_ | fail)
   first | exact tretX 20 [0] rfl hp rfl rfl rfl rfl ⟨rfl, rfl⟩ | (refine tretX 20 [0] rfl hp rfl rfl rfl rfl ⟨rfl, ?_⟩; simp only [tsM, ringsO, bufsO, ptrsR, memT, thrT, List.length_set, List.map_set, List.set_cons_zero, List.set_cons_succ, List.length_cons, List.length_nil, Nat.zero_add, Nat.reduceAdd] <;> rfl)
 by_cases k4 : dk = 4
 ·have h0 : r.n = 0 := Classical.byContradiction fun h => kw ⟨.inl k4, h⟩
  obtain ⟨a, ha, hal, hag⟩ := hrd (.inr (.inr k4))
  rw [stepB_4 (by rw [hnx]; exact k4) (by rw [hb]; exact hr0.1 h0)]
  rw [hnx]
  subst ha k4
  simp only
  have c4 := c4 (rdM s a)
  generalize swapW p k x (rdM s a) = w at *
  have hwr : wrM s a w.2.1 = s.mem.set a w.2.1 := by rw [wrM, Int.toNat_natCast]
  rw [hwr]
  generalize rdM s a = u at *
  have kn : decide ((r.n : Int) > 0) = false := dF (by omega)
  clear hadr hrd c2 c3 hk7 hnx
  obtain ⟨y2, v2, b2⟩ := w
  cases b2
  all_goals
   simp only [Bool.false_eq_true, if_false, if_true]
   rcases hpl with ⟨rfl, rfl⟩ | ⟨b, rfl, rfl⟩ | ⟨b, rfl, rfl⟩ | ⟨b, c, rfl, rfl⟩ | ⟨b, c, rfl, rfl⟩ | ⟨b, c, rfl, rfl⟩
  all_goals
   refine TC.of mixedOk (fn := f_tso_Machine_step) (by kernel_rfl) (by kernel_rfl) ok_tso_Machine_step rfl fun C hP hG hp => goF ?_; simp only [fs_tso_Machine_step, targEnv, Nat.zero_add, Nat.reduceAdd]
   repeat' (first | refine goR rfl ?_ | refine goS rfl ?_ | refine tret1 rfl ?_ | refine tretN rfl ?_ | refine gY rfl rfl ?_ | refine gN rfl rfl ?_ | refine qT rfl rfl ?_ | refine qF rfl rfl ?_ | refine lT (tl_ixo rfl rfl rfl hkl) ?_ | refine lT (tl_ixo rfl rfl rfl (Nat.le_of_ble_eq_true rfl)) ?_ | refine lT (tl_ldE rfl rfl hxt rfl) ?_ | refine lT (tl_ldEC rfl rfl rfl) ?_ | refine tr_storeE rfl rfl hxt rfl rfl rfl rfl rfl rfl ?_ | refine cA rfl (by rw [hP, hG]; exact c1) rfl ?_ | refine lT (tl_ixo (m := a) rfl rfl rfl hal) ?_ | refine lT (tl_ldE rfl rfl hag rfl) ?_ | refine tr_storeE rfl rfl hag rfl rfl rfl rfl rfl rfl ?_ | refine cA rfl (by rw [hP, hG]; exact c4) rfl ?_ | refine tr_callV hP hG (d1 _) rfl (by (repeat' first | exact FzL.nil | refine FzL.cons ?_ ?_ | exact Fz.fr rfl | exact Fz.nil _ | exact Fz.s _ _ _ _ _ _ rfl (lM ..).symm | exact Fz.s _ _ _ _ _ _ rfl rfl | refine Fz.pL rfl ?_ | refine Fz.aggL ?_); first | done | fail) rfl ?_ | refine qF rfl kn ?_ | fail)
   first | exact tretX 20 [0] rfl hp rfl rfl rfl rfl ⟨rfl, rfl⟩ | (refine tretX 20 [0] rfl hp rfl rfl rfl rfl ⟨rfl, ?_⟩; simp only [tsM, ringsO, bufsO, ptrsR, memT, thrT, List.length_set, List.map_set, List.set_cons_zero, List.set_cons_succ, List.length_cons, List.length_nil, Nat.zero_add, Nat.reduceAdd] <;> rfl)
 rw [stepB_5 (by rw [hnx]; exact k0) (by rw [hnx]; exact k2) (by rw [hnx]; exact k3) (by rw [hnx]; exact k4) (fun h => by rw [hb]; rw [hnx] at h; exact hr0.1 (Classical.byContradiction fun h' => kw ⟨.inr h, h'⟩))]
 have kn : dk = 5 → decide ((r.n : Int) > 0) = false := fun h => dF (by
  have : r.n = 0 := Classical.byContradiction fun h' => kw ⟨.inr h, h'⟩
  omega)
 generalize localW p k x = y at *
 have hk3 : dk = 1 ∨ dk = 5 ∨ dk = 6 := by omega
 clear hadr hrd c3 c4 hk7 hnx
 rcases hk3 with rfl | rfl | rfl
 all_goals
  rcases hpl with ⟨rfl, rfl⟩ | ⟨b, rfl, rfl⟩ | ⟨b, rfl, rfl⟩ | ⟨b, c, rfl, rfl⟩ | ⟨b, c, rfl, rfl⟩ | ⟨b, c, rfl, rfl⟩
 all_goals
  refine TC.of mixedOk (fn := f_tso_Machine_step) (by kernel_rfl) (by kernel_rfl) ok_tso_Machine_step rfl fun C hP hG hp => goF ?_; simp only [fs_tso_Machine_step, targEnv, Nat.zero_add, Nat.reduceAdd]
  repeat' (first | refine goR rfl ?_ | refine goS rfl ?_ | refine tret1 rfl ?_ | refine tretN rfl ?_ | refine gY rfl rfl ?_ | refine gN rfl rfl ?_ | refine qT rfl rfl ?_ | refine qF rfl rfl ?_ | refine lT (tl_ixo rfl rfl rfl hkl) ?_ | refine lT (tl_ixo rfl rfl rfl (Nat.le_of_ble_eq_true rfl)) ?_ | refine lT (tl_ldE rfl rfl hxt rfl) ?_ | refine lT (tl_ldEC rfl rfl rfl) ?_ | refine tr_storeE rfl rfl hxt rfl rfl rfl rfl rfl rfl ?_ | refine cA rfl (by rw [hP, hG]; exact c1) rfl ?_ | refine cA rfl (by rw [hP, hG]; exact c2) rfl ?_ | refine tr_callV hP hG (d1 _) rfl (by (repeat' first | exact FzL.nil | refine FzL.cons ?_ ?_ | exact Fz.fr rfl | exact Fz.nil _ | exact Fz.s _ _ _ _ _ _ rfl (lM ..).symm | exact Fz.s _ _ _ _ _ _ rfl rfl | refine Fz.pL rfl ?_ | refine Fz.aggL ?_); first | done | fail) rfl ?_ | refine qF rfl (kn rfl) ?_ | fail)
  first | exact tretX 20 [0] rfl hp rfl rfl rfl rfl ⟨rfl, rfl⟩ | (refine tretX 20 [0] rfl hp rfl rfl rfl rfl ⟨rfl, ?_⟩; simp only [tsM, ringsO, bufsO, ptrsR, memT, thrT, List.length_set, List.map_set, List.set_cons_zero, List.set_cons_succ, List.length_cons, List.length_nil, Nat.zero_add, Nat.reduceAdd] <;> rfl)
end
end Go.Proofs.YtphcaohldmdglaaGreatDoor
