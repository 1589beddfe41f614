/-
  Walks of functions of the program, and what the laws need of them.
-/
import Derived.Test.YtpeifhiphfpajaaGreatDoorRPI
import Derived.Test.YtpeifhiphfpajaaGreatDoorRPH
set_option linter.all false
set_option linter.unusedSimpArgs false
set_option linter.unusedVariables false
set_option linter.unnecessarySimpa false
namespace Go.Proofs.YtpeifhiphfpajaaGreatDoor
set_option maxRecDepth 20000
open Go Go.Proofs.YtpeifhiphfpajaaGreatDoor.V Go.Proofs
def tsM (p : Prg) (s : State) (R : List Rg) (k : Nat) : List (Nat × TObj) := (k, .cells [.fp (cCore p) 0, .s (k + 1) 1 0 s.mem.length true, .s (k + 2) 16 0 s.thr.length true, .s (k + 3) 1 0 R.length true] 132) :: (k + 1, memT s) :: (k + 2, thrT s) :: (k + 3, bufsO (k + 4) R) :: ringsO (k + 4) R
section
attribute [local irreducible] TwS TwR thenT inBlockT retT nextW localW loadedW swapW Rg.push Rg.pop
variable {G : World → Prop}
set_option maxHeartbeats 20000000 in
theorem tstep_own (p : Prg) (ho : okP p) (hc : checkC p = 0) (s : State) (hq : stQ p s) (R : List Rg) {m : Nat} (hr : rgQ s R m) (hm : m ≤ 1000000) (hl3 : s.thr.length ≤ 3) (k : Nat) (x : Thr) (hx : s.thr[k]? = some x) :
  TC prog Tabs 84 [.p 0 0, tI k] ⟨tsM p s R 0, 20⟩ [0] (fun v σ' => v = tB (stepB p s k x).2 ∧ σ' = ⟨tsM p (stepB p s k x).1 (doR p s R k false) 0, 20⟩) := by
 obtain ⟨r, hrk⟩ := hr.has hx
 have hb := hr.at hrk
 have hrm := List.mem_of_getElem? hrk
 have hrok := hr.ok r hrm
 obtain ⟨hrn, hrl⟩ := hr.few r hrm
 have hxq := hq.thr x (List.mem_of_getElem? hx)
 have hxt : (s.thr.map cThr)[k]? = some (cThr x) := by rw [List.getElem?_map, hx]; rfl
 have hkl : k < s.thr.length := (List.getElem?_eq_some_iff.1 hx).1
 have c1 := next_spec p ho hc k x hxq.r
 have c2 := localP_spec p ho hc k x hxq.r
 have c3 := fun v => loaded_spec p ho hc k x hxq.r v
 have c4 := fun v => swap_spec p ho hc k x hxq.r v
 have hadr := next_addr hc (t := k) (x := x)
 have d1 := fun G => rlen_spec (G := G) r
 have hrd : ∀ (h : (nextW p k x).kind = 2 ∨ (nextW p k x).kind = 3 ∨ (nextW p k x).kind = 4), ∃ a : Nat, (nextW p k x).addr = a ∧ a < s.mem.length ∧ (s.mem.map fun n => [tI n])[a]? = some [tI (rdM s (nextW p k x).addr)] := fun h => by
  obtain ⟨h1, h2⟩ := hadr h
  rw [← hq.len] at h2
  refine ⟨(nextW p k x).addr.toNat, by omega, by omega, ?_⟩
  rw [List.getElem?_map, rdM, List.getD_eq_getElem?_getD, List.getElem?_eq_getElem (by omega)]
  rfl
 have hr0 : r.n = 0 ↔ r.list = [] := Rg.len0
 have hRl : R.length ≤ 3 := by have := hr.len; omega
 have hpl := place3 hRl hrk
 have hk7 := nextW_kinds p k x
 generalize hnx : nextW p k x = d at *
 obtain ⟨dk, da, dv⟩ := d
 simp only at hadr hrd hk7
 by_cases k0 : dk = 0
 ·rw [stepB_0 (by rw [hnx]; exact k0), doR_n hx hrk (by rw [hnx]; show dk ≠ 3; omega)]
  subst k0
  clear hadr hrd c2 c3 c4 hk7 hnx
  rcases hpl with ⟨rfl, rfl⟩ | ⟨b, rfl, rfl⟩ | ⟨b, rfl, rfl⟩ | ⟨b, c, rfl, rfl⟩ | ⟨b, c, rfl, rfl⟩ | ⟨b, c, rfl, rfl⟩
  all_goals
   refine TC.at mixedOk F84 rfl fun C hP hG hp => goF ?_; simp only [F84, targEnv, Nat.zero_add, Nat.reduceAdd]
   repeat' (first | refine goR rfl ?_ | refine goS rfl ?_ | refine tret1 rfl ?_ | refine tretN rfl ?_ | refine gY rfl rfl ?_ | refine gN rfl rfl ?_ | refine qT rfl rfl ?_ | refine qF rfl rfl ?_ | refine lT (tl_ixo rfl rfl rfl hkl) ?_ | refine lT (tl_ixo rfl rfl rfl (Nat.le_of_ble_eq_true rfl)) ?_ | refine lT (tl_ldE rfl rfl hxt rfl) ?_ | refine lT (tl_ldEC rfl rfl rfl) ?_ | refine tr_storeE rfl rfl hxt rfl rfl rfl rfl rfl rfl ?_ | refine cA rfl (by rw [hP, hG]; exact c1) rfl ?_ | fail)
   first | exact tretX 20 [0] rfl hp rfl rfl rfl rfl ⟨rfl, rfl⟩ | (refine tretX 20 [0] rfl hp rfl rfl rfl rfl ⟨rfl, ?_⟩; simp only [tsM, ringsO, bufsO, ptrsR, memT, thrT, List.length_set, List.map_set, List.set_cons_zero, List.set_cons_succ, List.length_cons, List.length_nil, Nat.zero_add, Nat.reduceAdd] <;> rfl)
 by_cases k2 : dk = 2
 ·obtain ⟨a, ha, hal, hag⟩ := hrd (.inl k2)
  rw [stepB_2 (by rw [hnx]; exact k2), doR_n hx hrk (by rw [hnx]; show dk ≠ 3; omega)]
  rw [hnx]
  have d2 := fun G => rlast_spec (G := G) r hrok (by omega) a
  subst ha k2
  simp only
  have hsn : seenW s k (a : Int) = (lastE r.list a).getD (rdM s a) := by unfold seenW; rw [hb]
  generalize seenW s k (a : Int) = v at hsn ⊢
  have c3 := c3 v
  generalize loadedW p (k : Int) x v = y at c3 ⊢
  clear hadr hrd c2 c4 hk7 hnx
  generalize rdM s (a : Int) = w at *
  generalize lastE r.list (a : Int) = o at *
  cases o
  all_goals
   simp only [Option.getD_none, Option.getD_some] at hsn
   subst hsn
   rcases hpl with ⟨rfl, rfl⟩ | ⟨b, rfl, rfl⟩ | ⟨b, rfl, rfl⟩ | ⟨b, c, rfl, rfl⟩ | ⟨b, c, rfl, rfl⟩ | ⟨b, c, rfl, rfl⟩
  all_goals
   refine TC.at mixedOk F84 rfl fun C hP hG hp => goF ?_; simp only [F84, targEnv, Nat.zero_add, Nat.reduceAdd]
   repeat' (first | refine goR rfl ?_ | refine goS rfl ?_ | refine tret1 rfl ?_ | refine tretN rfl ?_ | refine gY rfl rfl ?_ | refine gN rfl rfl ?_ | refine qT rfl rfl ?_ | refine qF rfl rfl ?_ | refine lT (tl_ixo rfl rfl rfl hkl) ?_ | refine lT (tl_ixo rfl rfl rfl (Nat.le_of_ble_eq_true rfl)) ?_ | refine lT (tl_ldE rfl rfl hxt rfl) ?_ | refine lT (tl_ldEC rfl rfl rfl) ?_ | refine tr_storeE rfl rfl hxt rfl rfl rfl rfl rfl rfl ?_ | refine cA rfl (by rw [hP, hG]; exact c1) rfl ?_ | refine lT (tl_ixo (m := a) rfl rfl rfl hal) ?_ | refine lT (tl_ldE rfl rfl hag rfl) ?_ | refine tr_storeE rfl rfl hag rfl rfl rfl rfl rfl rfl ?_ | refine cA rfl (by rw [hP, hG]; exact c3) rfl ?_ | refine tr_callV hP hG (d1 _) rfl (by (repeat' first | exact FzL.nil | refine FzL.cons ?_ ?_ | exact Fz.fr rfl | exact Fz.nil _ | exact Fz.s _ _ _ _ _ _ rfl (lM ..).symm | exact Fz.s _ _ _ _ _ _ rfl rfl | refine Fz.pL rfl ?_ | refine Fz.aggL ?_); first | done | fail) rfl ?_ | refine tr_callV hP hG (d2 _) rfl (by (repeat' first | exact FzL.nil | refine FzL.cons ?_ ?_ | exact Fz.fr rfl | exact Fz.nil _ | exact Fz.s _ _ _ _ _ _ rfl (lM ..).symm | exact Fz.s _ _ _ _ _ _ rfl rfl | refine Fz.pL rfl ?_ | refine Fz.aggL ?_); first | done | fail) rfl ?_ | fail)
   first | exact tretX 20 [0] rfl hp rfl rfl rfl rfl ⟨rfl, rfl⟩ | (refine tretX 20 [0] rfl hp rfl rfl rfl rfl ⟨rfl, ?_⟩; simp only [tsM, ringsO, bufsO, ptrsR, memT, thrT, List.length_set, List.map_set, List.set_cons_zero, List.set_cons_succ, List.length_cons, List.length_nil, Nat.zero_add, Nat.reduceAdd] <;> rfl)
 by_cases k3 : dk = 3
 ·obtain ⟨a, ha, hal, hag⟩ := hrd (.inr (.inl k3))
  rw [stepB_3 (by rw [hnx]; exact k3), doR_3 hx hrk (by rw [hnx]; exact k3)]
  rw [hnx]
  have d3 := rpush_own (G := Tabs) r hrok (by omega) ⟨a, dv⟩
  subst ha k3
  simp only
  generalize bufAt s k ++ _ = bb
  generalize localW p k x = y at *
  generalize r.push ⟨a, dv⟩ = r' at *
  clear hadr hrd c3 c4 hk7 hnx
  rcases hpl with ⟨rfl, rfl⟩ | ⟨b, rfl, rfl⟩ | ⟨b, rfl, rfl⟩ | ⟨b, c, rfl, rfl⟩ | ⟨b, c, rfl, rfl⟩ | ⟨b, c, rfl, rfl⟩
  all_goals
   refine TC.at mixedOk F84 rfl fun C hP hG hp => goF ?_; simp only [F84, targEnv, Nat.zero_add, Nat.reduceAdd]
   repeat' (first | refine goR rfl ?_ | refine goS rfl ?_ | refine tret1 rfl ?_ | refine tretN rfl ?_ | refine gY rfl rfl ?_ | refine gN rfl rfl ?_ | refine qT rfl rfl ?_ | refine qF rfl rfl ?_ | refine lT (tl_ixo rfl rfl rfl hkl) ?_ | refine lT (tl_ixo rfl rfl rfl (Nat.le_of_ble_eq_true rfl)) ?_ | refine lT (tl_ldE rfl rfl hxt rfl) ?_ | refine lT (tl_ldEC rfl rfl rfl) ?_ | refine tr_storeE rfl rfl hxt rfl rfl rfl rfl rfl rfl ?_ | refine cA rfl (by rw [hP, hG]; exact c1) rfl ?_ | refine cA rfl (by rw [hP, hG]; exact c2) rfl ?_ | refine tr_callV hP hG (d1 _) rfl (by (repeat' first | exact FzL.nil | refine FzL.cons ?_ ?_ | exact Fz.fr rfl | exact Fz.nil _ | exact Fz.s _ _ _ _ _ _ rfl (lM ..).symm | exact Fz.s _ _ _ _ _ _ rfl rfl | refine Fz.pL rfl ?_ | refine Fz.aggL ?_); first | done | fail) rfl ?_ | refine tr_mcallX hP hG (d3) rfl rfl rfl rfl rfl rfl rfl rfl rfl rfl rfl rfl ?_ | fail)
   first | exact tretX 20 [0] rfl hp rfl rfl rfl rfl ⟨rfl, rfl⟩ | (refine tretX 20 [0] rfl hp rfl rfl rfl rfl ⟨rfl, ?_⟩; simp only [tsM, ringsO, bufsO, ptrsR, memT, thrT, List.length_set, List.map_set, List.set_cons_zero, List.set_cons_succ, List.length_cons, List.length_nil, Nat.zero_add, Nat.reduceAdd] <;> rfl)
 have hd3 := doR_n (p := p) hx hrk (by rw [hnx]; exact k3)
 rw [hd3]
 by_cases kw : (dk = 4 ∨ dk = 5) ∧ r.n ≠ 0
 ·rw [stepB_w (by rw [hnx]; exact kw.1) (by rw [hb]; exact fun h => kw.2 (hr0.2 h))]
  obtain ⟨kw, kn⟩ := kw
  have kn : decide ((r.n : Int) > 0) = true := dT (by omega)
  clear hadr hrd c2 c3 c4 hk7 hnx
  rcases kw with rfl | rfl
  all_goals
   rcases hpl with ⟨rfl, rfl⟩ | ⟨b, rfl, rfl⟩ | ⟨b, rfl, rfl⟩ | ⟨b, c, rfl, rfl⟩ | ⟨b, c, rfl, rfl⟩ | ⟨b, c, rfl, rfl⟩
  all_goals
   refine TC.at mixedOk F84 rfl fun C hP hG hp => goF ?_; simp only [F84, targEnv, Nat.zero_add, Nat.reduceAdd]
   repeat' (first | refine goR rfl ?_ | refine goS rfl ?_ | refine tret1 rfl ?_ | refine tretN rfl ?_ | refine gY rfl rfl ?_ | refine gN rfl rfl ?_ | refine qT rfl rfl ?_ | refine qF rfl rfl ?_ | refine lT (tl_ixo rfl rfl rfl hkl) ?_ | refine lT (tl_ixo rfl rfl rfl (Nat.le_of_ble_eq_true rfl)) ?_ | refine lT (tl_ldE rfl rfl hxt rfl) ?_ | refine lT (tl_ldEC rfl rfl rfl) ?_ | refine tr_storeE rfl rfl hxt rfl rfl rfl rfl rfl rfl ?_ | refine cA rfl (by rw [hP, hG]; exact c1) rfl ?_ | refine tr_callV hP hG (d1 _) rfl (by (repeat' first | exact FzL.nil | refine FzL.cons ?_ ?_ | exact Fz.fr rfl | exact Fz.nil _ | exact Fz.s _ _ _ _ _ _ rfl (lM ..).symm | exact Fz.s _ _ _ _ _ _ rfl rfl | refine Fz.pL rfl ?_ | refine Fz.aggL ?_); first | done | fail) rfl ?_ | refine qT rfl kn ?_ | fail)
   first | exact tretX 20 [0] rfl hp rfl rfl rfl rfl ⟨rfl, rfl⟩ | (refine tretX 20 [0] rfl hp rfl rfl rfl rfl ⟨rfl, ?_⟩; simp only [tsM, ringsO, bufsO, ptrsR, memT, thrT, List.length_set, List.map_set, List.set_cons_zero, List.set_cons_succ, List.length_cons, List.length_nil, Nat.zero_add, Nat.reduceAdd] <;> rfl)
 by_cases k4 : dk = 4
 ·have h0 : r.n = 0 := Classical.byContradiction fun h => kw ⟨.inl k4, h⟩
  obtain ⟨a, ha, hal, hag⟩ := hrd (.inr (.inr k4))
  rw [stepB_4 (by rw [hnx]; exact k4) (by rw [hb]; exact hr0.1 h0)]
  rw [hnx]
  subst ha k4
  simp only
  have c4 := c4 (rdM s a)
  generalize swapW p k x (rdM s a) = w at *
  have hwr : wrM s a w.2.1 = s.mem.set a w.2.1 := by rw [wrM, Int.toNat_natCast]
  rw [hwr]
  generalize rdM s a = u at *
  have kn : decide ((r.n : Int) > 0) = false := dF (by omega)
  clear hadr hrd c2 c3 hk7 hnx
  obtain ⟨y2, v2, b2⟩ := w
  cases b2
  all_goals
   simp only [Bool.false_eq_true, if_false, if_true]
   rcases hpl with ⟨rfl, rfl⟩ | ⟨b, rfl, rfl⟩ | ⟨b, rfl, rfl⟩ | ⟨b, c, rfl, rfl⟩ | ⟨b, c, rfl, rfl⟩ | ⟨b, c, rfl, rfl⟩
  all_goals
   refine TC.at mixedOk F84 rfl fun C hP hG hp => goF ?_; simp only [F84, targEnv, Nat.zero_add, Nat.reduceAdd]
   repeat' (first | refine goR rfl ?_ | refine goS rfl ?_ | refine tret1 rfl ?_ | refine tretN rfl ?_ | refine gY rfl rfl ?_ | refine gN rfl rfl ?_ | refine qT rfl rfl ?_ | refine qF rfl rfl ?_ | refine lT (tl_ixo rfl rfl rfl hkl) ?_ | refine lT (tl_ixo rfl rfl rfl (Nat.le_of_ble_eq_true rfl)) ?_ | refine lT (tl_ldE rfl rfl hxt rfl) ?_ | refine lT (tl_ldEC rfl rfl rfl) ?_ | refine tr_storeE rfl rfl hxt rfl rfl rfl rfl rfl rfl ?_ | refine cA rfl (by rw [hP, hG]; exact c1) rfl ?_ | refine lT (tl_ixo (m := a) rfl rfl rfl hal) ?_ | refine lT (tl_ldE rfl rfl hag rfl) ?_ | refine tr_storeE rfl rfl hag rfl rfl rfl rfl rfl rfl ?_ | refine cA rfl (by rw [hP, hG]; exact c4) rfl ?_ | refine tr_callV hP hG (d1 _) rfl (by (repeat' first | exact FzL.nil | refine FzL.cons ?_ ?_ | exact Fz.fr rfl | exact Fz.nil _ | exact Fz.s _ _ _ _ _ _ rfl (lM ..).symm | exact Fz.s _ _ _ _ _ _ rfl rfl | refine Fz.pL rfl ?_ | refine Fz.aggL ?_); first | done | fail) rfl ?_ | refine qF rfl kn ?_ | fail)
   first | exact tretX 20 [0] rfl hp rfl rfl rfl rfl ⟨rfl, rfl⟩ | (refine tretX 20 [0] rfl hp rfl rfl rfl rfl ⟨rfl, ?_⟩; simp only [tsM, ringsO, bufsO, ptrsR, memT, thrT, List.length_set, List.map_set, List.set_cons_zero, List.set_cons_succ, List.length_cons, List.length_nil, Nat.zero_add, Nat.reduceAdd] <;> rfl)
 rw [stepB_5 (by rw [hnx]; exact k0) (by rw [hnx]; exact k2) (by rw [hnx]; exact k3) (by rw [hnx]; exact k4) (fun h => by rw [hb]; rw [hnx] at h; exact hr0.1 (Classical.byContradiction fun h' => kw ⟨.inr h, h'⟩))]
 have kn : dk = 5 → decide ((r.n : Int) > 0) = false := fun h => dF (by
  have : r.n = 0 := Classical.byContradiction fun h' => kw ⟨.inr h, h'⟩
  omega)
 generalize localW p k x = y at *
 have hk3 : dk = 1 ∨ dk = 5 ∨ dk = 6 := by omega
 clear hadr hrd c3 c4 hk7 hnx
 rcases hk3 with rfl | rfl | rfl
 all_goals
  rcases hpl with ⟨rfl, rfl⟩ | ⟨b, rfl, rfl⟩ | ⟨b, rfl, rfl⟩ | ⟨b, c, rfl, rfl⟩ | ⟨b, c, rfl, rfl⟩ | ⟨b, c, rfl, rfl⟩
 all_goals
  refine TC.at mixedOk F84 rfl fun C hP hG hp => goF ?_; simp only [F84, targEnv, Nat.zero_add, Nat.reduceAdd]
  repeat' (first | refine goR rfl ?_ | refine goS rfl ?_ | refine tret1 rfl ?_ | refine tretN rfl ?_ | refine gY rfl rfl ?_ | refine gN rfl rfl ?_ | refine qT rfl rfl ?_ | refine qF rfl rfl ?_ | refine lT (tl_ixo rfl rfl rfl hkl) ?_ | refine lT (tl_ixo rfl rfl rfl (Nat.le_of_ble_eq_true rfl)) ?_ | refine lT (tl_ldE rfl rfl hxt rfl) ?_ | refine lT (tl_ldEC rfl rfl rfl) ?_ | refine tr_storeE rfl rfl hxt rfl rfl rfl rfl rfl rfl ?_ | refine cA rfl (by rw [hP, hG]; exact c1) rfl ?_ | refine cA rfl (by rw [hP, hG]; exact c2) rfl ?_ | refine tr_callV hP hG (d1 _) rfl (by (repeat' first | exact FzL.nil | refine FzL.cons ?_ ?_ | exact Fz.fr rfl | exact Fz.nil _ | exact Fz.s _ _ _ _ _ _ rfl (lM ..).symm | exact Fz.s _ _ _ _ _ _ rfl rfl | refine Fz.pL rfl ?_ | refine Fz.aggL ?_); first | done | fail) rfl ?_ | refine qF rfl (kn rfl) ?_ | fail)
  first | exact tretX 20 [0] rfl hp rfl rfl rfl rfl ⟨rfl, rfl⟩ | (refine tretX 20 [0] rfl hp rfl rfl rfl rfl ⟨rfl, ?_⟩; simp only [tsM, ringsO, bufsO, ptrsR, memT, thrT, List.length_set, List.map_set, List.set_cons_zero, List.set_cons_succ, List.length_cons, List.length_nil, Nat.zero_add, Nat.reduceAdd] <;> rfl)
end
end Go.Proofs.YtpeifhiphfpajaaGreatDoor
namespace Go.Proofs.YtpeifhiphfpajaaGreatDoor
set_option maxRecDepth 20000
open Go Go.Proofs.YtpeifhiphfpajaaGreatDoor.V Go.Proofs
theorem rows33 {α : Type} {l l' : List α} (h : l.length ≤ 3) (e : l'.length = l.length) : (l = [] ∧ l' = []) ∨ (∃ a a', l = [a] ∧ l' = [a']) ∨ (∃ a b a' b', l = [a, b] ∧ l' = [a', b']) ∨ ∃ a b c a' b' c', l = [a, b, c] ∧ l' = [a', b', c'] := by
 rcases rows3 h with rfl | ⟨a, rfl⟩ | ⟨a, b, rfl⟩ | ⟨a, b, c, rfl⟩ <;> rcases rows3 (l := l') (by omega) with rfl | ⟨a', rfl⟩ | ⟨a', b', rfl⟩ | ⟨a', b', c', rfl⟩ <;> first
  | (simp at e; done)
  | exact .inl ⟨rfl, rfl⟩
  | exact .inr (.inl ⟨_, _, rfl, rfl⟩)
  | exact .inr (.inr (.inl ⟨_, _, _, _, rfl, rfl⟩))
  | exact .inr (.inr (.inr ⟨_, _, _, _, _, _, rfl, rfl⟩))
section
attribute [local irreducible] TwS TwR thenT inBlockT retT nextW localW loadedW swapW Rg.push Rg.pop tsoW doR
variable {G : World → Prop}
set_option maxHeartbeats 20000000 in
theorem tdo_own (p : Prg) (ho : okP p) (hc : checkC p = 0) {m : Nat} (q : MS) (hq : mQ p m q) (hm : m ≤ 1000000) (hl3 : p.threads.length ≤ 3) (t : Int) (f : Bool) :
  TC prog Tabs 52 [.p 0 0, .agg [tI t, tB f]] ⟨tsM p q.1 q.2 0, 20⟩ [0] (fun v σ' => v = tB (tsoW p q.1 t f).2 ∧ σ' = ⟨tsM p (mW p q (t, f)).1 (mW p q (t, f)).2 0, 20⟩) := by
 obtain ⟨s, R⟩ := q
 obtain ⟨hst, hrg, hth, hlk⟩ := hq
 simp only at hst hrg hth hlk
 show TC prog Tabs 52 [.p 0 0, .agg [tI t, tB f]] ⟨tsM p s R 0, 20⟩ [0] (fun v σ' => v = tB (tsoW p s t f).2 ∧ σ' = ⟨tsM p (tsoW p s t f).1 (doR p s R t f) 0, 20⟩)
 have hl : s.thr.length ≤ 3 := by omega
 have hRl : R.length ≤ 3 := by have := hrg.len; omega
 by_cases ht : 0 ≤ t ∧ t < (s.thr.length : Int)
 ·obtain ⟨k, rfl⟩ : ∃ k : Nat, t = k := ⟨t.toNat, by omega⟩
  have hkl : k < s.thr.length := by omega
  have hx : s.thr[k]? = some s.thr[k] := List.getElem?_eq_getElem hkl
  generalize s.thr[k] = x at hx
  have g1 : decide ((k : Int) < 0) = false := dF (by omega)
  have g2 : decide ((k : Int) ≥ (s.thr.length : Int)) = false := dF (by omega)
  cases f with
  | false =>
   have c := tstep_own p ho hc s hst R hrg hm hl k x hx
   rw [tsoW_s hx]
   have hlen := doR_len p s R k false
   generalize doR p s R k false = R' at c hlen ⊢
   generalize stepB p s k x = w at c ⊢
   rcases rows33 hRl hlen with ⟨rfl, rfl⟩ | ⟨a, a', rfl, rfl⟩ | ⟨a, b, a', b', rfl, rfl⟩ | ⟨a, b, d, a', b', d', rfl, rfl⟩
   all_goals
    refine TC.at mixedOk F52 rfl fun C hP hG hp => goF ?_; simp only [F52, targEnv, Nat.zero_add, Nat.reduceAdd]
    repeat' (first | refine goR rfl ?_ | refine goS rfl ?_ | refine tret1 rfl ?_ | refine tretN rfl ?_ | refine gY rfl rfl ?_ | refine gN rfl rfl ?_ | refine qT rfl rfl ?_ | refine qF rfl rfl ?_ | refine qF rfl g1 ?_ | refine qF rfl g2 ?_ | refine gY rfl g1 ?_ | refine tr_mcallX hP hG (c) rfl rfl rfl rfl rfl rfl rfl rfl rfl rfl rfl rfl ?_ | fail)
    exact tretX 20 [0] rfl hp rfl rfl rfl rfl ⟨rfl, rfl⟩
  | true =>
   obtain ⟨r, hrk⟩ := hrg.has hx
   have hb := hrg.at hrk
   have hrm := List.mem_of_getElem? hrk
   have hrok := hrg.ok r hrm
   obtain ⟨hrn, hrl⟩ := hrg.few r hrm
   rw [tsoW_f hkl, doR_f hx hrk]
   have hpl := place3 hRl hrk
   by_cases h0 : r.n = 0
   ·rw [flushW_nil (by rw [hb]; exact Rg.len0.1 h0), if_pos h0]
    have c := rpop0_own (G := Tabs) r h0
    rcases hpl with ⟨rfl, rfl⟩ | ⟨b, rfl, rfl⟩ | ⟨b, rfl, rfl⟩ | ⟨b, c, rfl, rfl⟩ | ⟨b, c, rfl, rfl⟩ | ⟨b, c, rfl, rfl⟩
    all_goals
     refine TC.at mixedOk F52 rfl fun C hP hG hp => goF ?_; simp only [F52, targEnv, Nat.zero_add, Nat.reduceAdd]
     repeat' (first | refine goR rfl ?_ | refine goS rfl ?_ | refine tret1 rfl ?_ | refine tretN rfl ?_ | refine gY rfl rfl ?_ | refine gN rfl rfl ?_ | refine qT rfl rfl ?_ | refine qF rfl rfl ?_ | refine lT (tl_ixo rfl rfl rfl (Nat.le_of_ble_eq_true rfl)) ?_ | refine lT (tl_ldEC rfl rfl rfl) ?_ | refine tr_mcallX hP hG (c) rfl rfl rfl rfl rfl rfl rfl rfl rfl rfl rfl rfl ?_ | refine tr_mcallX hP hG (‹TC _ _ 83 _ _ _ _›) rfl rfl rfl rfl rfl rfl rfl rfl rfl rfl rfl rfl ?_ | refine qF rfl g2 ?_ | fail)
     exact tretX 20 [0] rfl hp rfl rfl rfl rfl ⟨rfl, rfl⟩
   ·have hpop := Rg.pop_list hrok h0
    have had := hrg.addr r hrm (r.l.getD r.p zE) (by rw [hpop]; exact List.mem_cons_self ..)
    rw [flushW_cons (by rw [hb]; exact hpop), if_neg h0]
    have c := rpop_own (G := Tabs) r hrok (by omega) h0
    generalize r.l.getD r.p zE = e at *
    generalize r.pop = r' at *
    obtain ⟨ea, ev⟩ := e
    obtain ⟨a, rfl⟩ : ∃ a : Nat, ea = a := ⟨ea.toNat, by have := had.1; simp only at this; omega⟩
    have hal : a < s.mem.length := by have := had.2.1; simp only at this; omega
    have hag : (s.mem.map fun n => [tI n])[a]? = some [tI (rdM s a)] := by
     rw [List.getElem?_map, rdM, Int.toNat_natCast, List.getD_eq_getElem?_getD, List.getElem?_eq_getElem hal]; rfl
    rw [show wrM s (a : Int) ev = s.mem.set a ev by rw [wrM, Int.toNat_natCast]]
    rcases hpl with ⟨rfl, rfl⟩ | ⟨b, rfl, rfl⟩ | ⟨b, rfl, rfl⟩ | ⟨b, c, rfl, rfl⟩ | ⟨b, c, rfl, rfl⟩ | ⟨b, c, rfl, rfl⟩
    all_goals
     refine TC.at mixedOk F52 rfl fun C hP hG hp => goF ?_; simp only [F52, targEnv, Nat.zero_add, Nat.reduceAdd]
     repeat' (first | refine goR rfl ?_ | refine goS rfl ?_ | refine tret1 rfl ?_ | refine tretN rfl ?_ | refine gY rfl rfl ?_ | refine gN rfl rfl ?_ | refine qT rfl rfl ?_ | refine qF rfl rfl ?_ | refine lT (tl_ixo rfl rfl rfl (Nat.le_of_ble_eq_true rfl)) ?_ | refine lT (tl_ldEC rfl rfl rfl) ?_ | refine tr_mcallX hP hG (‹TC _ _ 83 _ _ _ _›) rfl rfl rfl rfl rfl rfl rfl rfl rfl rfl rfl rfl ?_ | refine lT (tl_ixo (m := a) rfl rfl rfl hal) ?_ | refine tr_storeE rfl rfl hag rfl rfl rfl rfl rfl rfl ?_ | refine qF rfl g2 ?_ | fail)
     refine tretX 20 [0] rfl hp rfl rfl rfl rfl ⟨rfl, ?_⟩
     simp only [tsM, ringsO, bufsO, ptrsR, memT, thrT, List.length_set, List.map_set, List.set_cons_zero, List.set_cons_succ, List.length_cons, List.length_nil, Nat.zero_add, Nat.reduceAdd] <;> rfl
 ·rw [tsoW_out ht, doR_out ht]
  rcases rows3 hRl with rfl | ⟨a, rfl⟩ | ⟨a, b, rfl⟩ | ⟨a, b, c, rfl⟩
  all_goals
   refine TC.at mixedOk F52 rfl fun C hP hG hp => goF ?_; simp only [F52, targEnv, Nat.zero_add, Nat.reduceAdd]
   repeat' (first | refine goR rfl ?_ | refine goS rfl ?_ | refine tret1 rfl ?_ | refine tretN rfl ?_ | refine gY rfl rfl ?_ | refine gN rfl rfl ?_ | refine qT rfl rfl ?_ | refine qF rfl rfl ?_ | ((first | refine gS rfl (fun h => ?_) (fun h => ?_) | refine ts_cond rfl (fun h => ?_) (fun h => ?_)) <;> (try simp only [bs0, beq_iff_eq] at h) <;> try (exfalso; omega; done)) | fail)
   all_goals exact tretX 20 [0] rfl hp rfl rfl rfl rfl ⟨rfl, rfl⟩
end
end Go.Proofs.YtpeifhiphfpajaaGreatDoor
namespace Go.Proofs.YtpeifhiphfpajaaGreatDoor
set_option maxRecDepth 20000
open Go Go.Proofs.YtpeifhiphfpajaaGreatDoor.V Go.Proofs
def cPick (x : Int × Bool) : List TV := [tI x.1, tB x.2]
theorem mW_id {p : Prg} {q : MS} {k : Nat} {m : Nat} (h : mQ p m q) (hk : k < q.1.thr.length) (hb : bufAt q.1 k = []) : mW p q ((k : Int), true) = q ∧ (tsoW p q.1 (k : Int) true).2 = false := by
 have hx : q.1.thr[k]? = some q.1.thr[k] := List.getElem?_eq_getElem hk
 obtain ⟨r, hr⟩ := h.rg.has hx
 have h0 : r.n = 0 := Rg.len0.2 (by rw [← h.rg.at hr, hb])
 refine ⟨?_, by rw [tsoW_f hk, flushW_nil hb]⟩
 show ((tsoW p q.1 (k : Int) true).1, doR p q.1 q.2 (k : Int) true) = q
 rw [tsoW_f hk, flushW_nil hb, doR_f hx hr, if_pos h0]
section
attribute [local irreducible] TwS TwR thenT inBlockT retT nextW localW loadedW swapW Rg.push Rg.pop tsoW doR
variable {G : World → Prop}
end
end Go.Proofs.YtpeifhiphfpajaaGreatDoor
namespace Go.Proofs.YtpeifhiphfpajaaGreatDoor
set_option maxRecDepth 20000
open Go Go.Proofs.YtpeifhiphfpajaaGreatDoor.V Go.Proofs
def startT (p : Prg) : State := { start0 p with bufs := List.replicate p.threads.length [] }
def beginM (p : Prg) : MS := (startT p, List.replicate p.threads.length Rg.new)
theorem beginM_ok {p : Prg} (hq : stQ p (start0 p)) : mQ p 0 (beginM p) := by
 refine ⟨⟨hq.len, hq.thr, hq.mem⟩, ⟨?_, ?_, ?_, ?_, ?_⟩, ?_, rfl⟩
 ·show List.replicate _ _ = List.map _ (List.replicate _ _)
  rw [List.map_replicate]; rfl
 ·show (List.replicate _ _).length = (List.replicate _ _).length
  rw [List.length_replicate, List.length_replicate]
 ·intro r hr; rw [(List.mem_replicate.1 hr).2]; exact Rg.new_ok
 ·intro r hr; rw [(List.mem_replicate.1 hr).2]; exact ⟨Nat.le_refl _, Nat.zero_le _⟩
 ·intro r hr; rw [(List.mem_replicate.1 hr).2]; intro e he; cases he
 ·show (List.replicate _ _).length = _
  rw [List.length_replicate]
section
attribute [local irreducible] TwS TwR thenT inBlockT retT nextW localW loadedW swapW Rg.push Rg.pop
variable {G : World → Prop}
theorem tnew_no (p : Prg) (ho : okP p) (hc : checkC p ≠ 0) : Pure prog Tabs 22 [.agg (cPrg p)] (.v (.pointer none)) := by
 have c := make_no p ho hc
 refine Pure.at mixedOk F22 rfl fun C hP hG hp => goF ?_; simp only [F22, targEnv, Nat.zero_add, Nat.reduceAdd]
 repeat' (first | refine goR rfl ?_ | refine goS rfl ?_ | refine tret1 rfl ?_ | refine tretN rfl ?_ | refine gY rfl rfl ?_ | refine gN rfl rfl ?_ | refine qT rfl rfl ?_ | refine qF rfl rfl ?_ | refine cA rfl (by rw [hP, hG]; exact c) rfl ?_ | fail)
 exact .fr rfl
set_option maxHeartbeats 20000000 in
theorem tnew_own (p : Prg) (ho : okP p) (hc : checkC p = 0) (hs : okS (start0 p)) (hb : (start0 p).bufs = []) (hl8 : p.threads.length ≤ 3) : TC prog Tabs 22 [.agg (cPrg p)] ⟨[], 0⟩ [] (fun v σ' => v = .p 0 0 ∧ σ' = ⟨tsM p (beginM p).1 (beginM p).2 0, 20⟩) := by
 have c := make_spec p ho hc
 have c2 := startS_own (G := Tabs) p hs hb
 have c3 := rnew_own (G := Tabs)
 have hpl : (start0 p).thr.length = p.threads.length := List.length_replicate ..
 refine TC.at mixedOk F22 rfl fun C hP hG hp => goF ?_; simp only [F22, targEnv, Nat.zero_add, Nat.reduceAdd]
 repeat' (first | refine goR rfl ?_ | refine goS rfl ?_ | refine tret1 rfl ?_ | refine tretN rfl ?_ | refine gY rfl rfl ?_ | refine gN rfl rfl ?_ | refine qT rfl rfl ?_ | refine qF rfl rfl ?_ | refine cA rfl (by rw [hP, hG]; exact c) rfl ?_ | refine tr_mcallX hP hG (c2) rfl rfl rfl rfl rfl rfl rfl rfl rfl rfl rfl rfl ?_ | fail)
 refine loopS (fun m env σ => ∃ i, i ≤ p.threads.length ∧ m = p.threads.length - i ∧ env = [(5, .p 0 0), (23, tI (start0 p).thr.length), (24, tI i)] ∧ σ = ⟨tsM p (start0 p) (List.replicate i Rg.new) 0, 30⟩) p.threads.length ((w_virtC (j := 4) (i := 3) 1 133 rfl rfl).trans (w_canon 30 [] [5, 23, 24] hp rfl rfl rfl rfl)) ⟨0, by omega, by omega, rfl, rfl⟩ ?_
 rintro m1 env σ ⟨i, hi, rfl, rfl, rfl⟩
 by_cases hlt : i < p.threads.length
 ·have h8 : i = 0 ∨ i = 1 ∨ i = 2 := by omega
  have hcd : decide ((i : Int) < ((start0 p).thr.length : Int)) = true := dT (by omega)
  rcases h8 with rfl | rfl | rfl
  all_goals
   repeat' (first | refine goR rfl ?_ | refine goS rfl ?_ | refine tret1 rfl ?_ | refine tretN rfl ?_ | refine gY rfl rfl ?_ | refine gN rfl rfl ?_ | refine qT rfl rfl ?_ | refine qF rfl rfl ?_ | refine qT rfl hcd ?_ | refine tr_mcallX hP hG (c3) rfl rfl rfl rfl rfl rfl rfl rfl rfl rfl rfl rfl ?_ | refine tr_rowC rfl rfl rfl ?_ | refine tr_appendN rfl rfl rfl rfl (by decide) rfl (by decide) rfl ?_ | refine tr_appendC rfl rfl rfl rfl rfl (by decide) rfl (by decide) rfl ?_ | fail)
   exact again (m' := p.threads.length - (_ + 1)) (by omega) (w_canon 30 [] [5, 23, 24] hp rfl rfl rfl rfl) ⟨_ + 1, hlt, rfl, rfl, rfl⟩
 ·have hie : p.threads.length = i := by omega
  have hcd : decide ((i : Int) < ((start0 p).thr.length : Int)) = false := dF (by omega)
  have hbm : tsM p (beginM p).1 (beginM p).2 0 = tsM p (start0 p) (List.replicate i Rg.new) 0 := by rw [← hie]; rfl
  rw [hbm]
  have h8 : i = 0 ∨ i = 1 ∨ i = 2 ∨ i = 3 := by omega
  rcases h8 with rfl | rfl | rfl | rfl
  all_goals
   repeat' (first | refine goR rfl ?_ | refine goS rfl ?_ | refine tret1 rfl ?_ | refine tretN rfl ?_ | refine gY rfl rfl ?_ | refine gN rfl rfl ?_ | refine qT rfl rfl ?_ | refine qF rfl rfl ?_ | refine qF rfl hcd ?_ | fail)
   exact tretX 20 [] rfl hp rfl rfl rfl rfl ⟨rfl, rfl⟩
set_option maxHeartbeats 20000000 in
theorem tstate_0 (p : Prg) (s : State) (hm : s.mem.length ≤ 1000000000) (ht : s.thr.length ≤ 3) :
  TC prog G 51 [.p 0 0] ⟨tsM p s [] 0, 20⟩ [0] (fun v σ' => v = .agg [.s 4 1 0 s.mem.length true, .s 5 16 0 s.thr.length true, .s 6 1 0 0 true, tI 0] ∧
   σ' = ⟨tsM p s [] 0 ++ [(4, memT s), (5, thrT s), (6, .rows 1 (([].map Rg.list).map cBuf) 96)], 24⟩) := by
 have e1 : (s.mem.map fun n => [tI n]).length = s.mem.length := lM ..
 have e2 : (s.thr.map cThr).length = s.thr.length := lM ..
 have hrn : ∀ r : Rg, r.n = (r.list.map cEntry).length := fun r => by rw [lM, r.list_len]
 refine TC.at mixedOk F51 rfl fun C hP hG hp => goF ?_; simp only [F51, targEnv, Nat.zero_add, Nat.reduceAdd]
 repeat' (first | refine goR rfl ?_ | refine goS rfl ?_ | refine tret1 rfl ?_ | refine tretN rfl ?_ | refine gY rfl rfl ?_ | refine gN rfl rfl ?_ | refine qT rfl rfl ?_ | refine qF rfl rfl ?_ | refine tr_append rfl rfl rfl (.inr (.inr ⟨_, _, _, _, rfl, rfl, (by first | exact e1.symm | exact e2.symm)⟩)) (by first | (simp; omega) | (simp only [List.length_nil]; omega)) rfl ?_ | fail)
 simp only [Nat.zero_add, e1, e2]
 refine loopS (fun m env σ => ∃ i, i ≤ 0 ∧ m = 0 - i ∧ env = [(2, .p 4 0), (3, .p 5 0), (25, .s 3 1 0 0 true), (26, tI 0), (27, tI i)] ∧
  σ = ⟨tsM p s [] 0 ++ [(4, .cells [.v (.slice none 0 0), .v (.slice none 0 0), .v (.slice none 0 0), tI 0] 41), (5, .cells [.s 6 1 0 s.mem.length true, .s 7 16 0 s.thr.length true, .s 8 1 0 i true, tI 0] 41), (6, memT s), (7, thrT s), (8, .rows 1 ((([].take i).map Rg.list).map cBuf) 96)], 40⟩) 0
  ((w_virtC (j := 23) (i := 2) 1 96 rfl rfl).trans (w_canon 40 [0] [2, 3, 25, 26, 27] hp rfl rfl rfl rfl)) ⟨0, by omega, by omega, rfl, rfl⟩ ?_
 rintro m1 env σ ⟨i, hi, rfl, rfl, rfl⟩
 have hi' : i = 0 := by omega
 rcases hi' with rfl
 all_goals
  repeat' (first | refine goR rfl ?_ | refine goS rfl ?_ | refine tret1 rfl ?_ | refine tretN rfl ?_ | refine gY rfl rfl ?_ | refine gN rfl rfl ?_ | refine qT rfl rfl ?_ | refine qF rfl rfl ?_ | fail | refine lT (tl_ixo rfl rfl rfl (Nat.le_of_ble_eq_true rfl)) ?_ | refine lT (tl_ldEC rfl rfl rfl) ?_ | refine tr_frzS 34 rfl rfl (hrn _) ?_ | refine tr_append rfl rfl rfl (.inr (.inr ⟨_, _, _, _, rfl, rfl, rfl⟩)) ⟨Nat.le_of_ble_eq_true rfl, Nat.le_of_ble_eq_true rfl⟩ rfl ?_ | fail)
  first | (refine again ?_ (w_canon 40 [0] [2, 3, 25, 26, 27] hp rfl rfl rfl rfl) ⟨_ + 1, ?_, rfl, rfl, rfl⟩ <;> decide) | exact tretX 24 [0] rfl hp rfl rfl rfl rfl ⟨rfl, rfl⟩
set_option maxHeartbeats 20000000 in
theorem tstate_1 (p : Prg) (s : State) (r0 : Rg) (hm : s.mem.length ≤ 1000000000) (ht : s.thr.length ≤ 3) (c0 : TC prog G 82 [.fp (cRg r0) 0] ⟨[], 0⟩ [] (fun v σ' => v = .s 0 2 0 r0.n true ∧ σ' = ⟨[(0, .rows 2 (r0.list.map cEntry) 103)], 1⟩)) :
  TC prog G 51 [.p 0 0] ⟨tsM p s [r0] 0, 20⟩ [0] (fun v σ' => v = .agg [.s 6 1 0 s.mem.length true, .s 7 16 0 s.thr.length true, .s 8 1 0 1 true, tI 0] ∧
   σ' = ⟨tsM p s [r0] 0 ++ [(6, memT s), (7, thrT s), (8, .rows 1 (([r0].map Rg.list).map cBuf) 96)], 24⟩) := by
 have e1 : (s.mem.map fun n => [tI n]).length = s.mem.length := lM ..
 have e2 : (s.thr.map cThr).length = s.thr.length := lM ..
 have hrn : ∀ r : Rg, r.n = (r.list.map cEntry).length := fun r => by rw [lM, r.list_len]
 refine TC.at mixedOk F51 rfl fun C hP hG hp => goF ?_; simp only [F51, targEnv, Nat.zero_add, Nat.reduceAdd]
 repeat' (first | refine goR rfl ?_ | refine goS rfl ?_ | refine tret1 rfl ?_ | refine tretN rfl ?_ | refine gY rfl rfl ?_ | refine gN rfl rfl ?_ | refine qT rfl rfl ?_ | refine qF rfl rfl ?_ | refine tr_append rfl rfl rfl (.inr (.inr ⟨_, _, _, _, rfl, rfl, (by first | exact e1.symm | exact e2.symm)⟩)) (by first | (simp; omega) | (simp only [List.length_nil]; omega)) rfl ?_ | fail)
 simp only [Nat.zero_add, e1, e2]
 refine loopS (fun m env σ => ∃ i, i ≤ 1 ∧ m = 1 - i ∧ env = [(2, .p 6 0), (3, .p 7 0), (25, .s 3 1 0 1 true), (26, tI 1), (27, tI i)] ∧
  σ = ⟨tsM p s [r0] 0 ++ [(6, .cells [.v (.slice none 0 0), .v (.slice none 0 0), .v (.slice none 0 0), tI 0] 41), (7, .cells [.s 8 1 0 s.mem.length true, .s 9 16 0 s.thr.length true, .s 10 1 0 i true, tI 0] 41), (8, memT s), (9, thrT s), (10, .rows 1 ((([r0].take i).map Rg.list).map cBuf) 96)], 40⟩) 1
  ((w_virtC (j := 23) (i := 2) 1 96 rfl rfl).trans (w_canon 40 [0] [2, 3, 25, 26, 27] hp rfl rfl rfl rfl)) ⟨0, by omega, by omega, rfl, rfl⟩ ?_
 rintro m1 env σ ⟨i, hi, rfl, rfl, rfl⟩
 have hi' : i = 0 ∨ i = 1 := by omega
 rcases hi' with rfl | rfl
 all_goals
  repeat' (first | refine goR rfl ?_ | refine goS rfl ?_ | refine tret1 rfl ?_ | refine tretN rfl ?_ | refine gY rfl rfl ?_ | refine gN rfl rfl ?_ | refine qT rfl rfl ?_ | refine qF rfl rfl ?_ | refine tr_mcallV hP hG (c0) rfl (by (repeat' first | exact FzL.nil | refine FzL.cons ?_ ?_ | exact Fz.fr rfl | exact Fz.nil _ | exact Fz.s _ _ _ _ _ _ rfl (lM ..).symm | exact Fz.s _ _ _ _ _ _ rfl rfl | refine Fz.pL rfl ?_ | refine Fz.aggL ?_); first | done | fail) rfl rfl rfl rfl rfl rfl (by (repeat' first | rfl | exact selfS_nil | refine selfS_cons ?_ ?_ | exact self_rows (fun _ => rfl) _ _ _); first | done | fail) rfl ?_ | refine lT (tl_ixo rfl rfl rfl (Nat.le_of_ble_eq_true rfl)) ?_ | refine lT (tl_ldEC rfl rfl rfl) ?_ | refine tr_frzS 34 rfl rfl (hrn _) ?_ | refine tr_append rfl rfl rfl (.inr (.inr ⟨_, _, _, _, rfl, rfl, rfl⟩)) ⟨Nat.le_of_ble_eq_true rfl, Nat.le_of_ble_eq_true rfl⟩ rfl ?_ | fail)
  first | (refine again ?_ (w_canon 40 [0] [2, 3, 25, 26, 27] hp rfl rfl rfl rfl) ⟨_ + 1, ?_, rfl, rfl, rfl⟩ <;> decide) | exact tretX 24 [0] rfl hp rfl rfl rfl rfl ⟨rfl, rfl⟩
set_option maxHeartbeats 20000000 in
theorem tstate_2 (p : Prg) (s : State) (r0 : Rg) (r1 : Rg) (hm : s.mem.length ≤ 1000000000) (ht : s.thr.length ≤ 3) (c0 : TC prog G 82 [.fp (cRg r0) 0] ⟨[], 0⟩ [] (fun v σ' => v = .s 0 2 0 r0.n true ∧ σ' = ⟨[(0, .rows 2 (r0.list.map cEntry) 103)], 1⟩)) (c1 : TC prog G 82 [.fp (cRg r1) 0] ⟨[], 0⟩ [] (fun v σ' => v = .s 0 2 0 r1.n true ∧ σ' = ⟨[(0, .rows 2 (r1.list.map cEntry) 103)], 1⟩)) :
  TC prog G 51 [.p 0 0] ⟨tsM p s [r0, r1] 0, 20⟩ [0] (fun v σ' => v = .agg [.s 8 1 0 s.mem.length true, .s 9 16 0 s.thr.length true, .s 10 1 0 2 true, tI 0] ∧
   σ' = ⟨tsM p s [r0, r1] 0 ++ [(8, memT s), (9, thrT s), (10, .rows 1 (([r0, r1].map Rg.list).map cBuf) 96)], 24⟩) := by
 have e1 : (s.mem.map fun n => [tI n]).length = s.mem.length := lM ..
 have e2 : (s.thr.map cThr).length = s.thr.length := lM ..
 have hrn : ∀ r : Rg, r.n = (r.list.map cEntry).length := fun r => by rw [lM, r.list_len]
 refine TC.at mixedOk F51 rfl fun C hP hG hp => goF ?_; simp only [F51, targEnv, Nat.zero_add, Nat.reduceAdd]
 repeat' (first | refine goR rfl ?_ | refine goS rfl ?_ | refine tret1 rfl ?_ | refine tretN rfl ?_ | refine gY rfl rfl ?_ | refine gN rfl rfl ?_ | refine qT rfl rfl ?_ | refine qF rfl rfl ?_ | refine tr_append rfl rfl rfl (.inr (.inr ⟨_, _, _, _, rfl, rfl, (by first | exact e1.symm | exact e2.symm)⟩)) (by first | (simp; omega) | (simp only [List.length_nil]; omega)) rfl ?_ | fail)
 simp only [Nat.zero_add, e1, e2]
 refine loopS (fun m env σ => ∃ i, i ≤ 2 ∧ m = 2 - i ∧ env = [(2, .p 8 0), (3, .p 9 0), (25, .s 3 1 0 2 true), (26, tI 2), (27, tI i)] ∧
  σ = ⟨tsM p s [r0, r1] 0 ++ [(8, .cells [.v (.slice none 0 0), .v (.slice none 0 0), .v (.slice none 0 0), tI 0] 41), (9, .cells [.s 10 1 0 s.mem.length true, .s 11 16 0 s.thr.length true, .s 12 1 0 i true, tI 0] 41), (10, memT s), (11, thrT s), (12, .rows 1 ((([r0, r1].take i).map Rg.list).map cBuf) 96)], 40⟩) 2
  ((w_virtC (j := 23) (i := 2) 1 96 rfl rfl).trans (w_canon 40 [0] [2, 3, 25, 26, 27] hp rfl rfl rfl rfl)) ⟨0, by omega, by omega, rfl, rfl⟩ ?_
 rintro m1 env σ ⟨i, hi, rfl, rfl, rfl⟩
 have hi' : i = 0 ∨ i = 1 ∨ i = 2 := by omega
 rcases hi' with rfl | rfl | rfl
 all_goals
  repeat' (first | refine goR rfl ?_ | refine goS rfl ?_ | refine tret1 rfl ?_ | refine tretN rfl ?_ | refine gY rfl rfl ?_ | refine gN rfl rfl ?_ | refine qT rfl rfl ?_ | refine qF rfl rfl ?_ | refine tr_mcallV hP hG (c0) rfl (by (repeat' first | exact FzL.nil | refine FzL.cons ?_ ?_ | exact Fz.fr rfl | exact Fz.nil _ | exact Fz.s _ _ _ _ _ _ rfl (lM ..).symm | exact Fz.s _ _ _ _ _ _ rfl rfl | refine Fz.pL rfl ?_ | refine Fz.aggL ?_); first | done | fail) rfl rfl rfl rfl rfl rfl (by (repeat' first | rfl | exact selfS_nil | refine selfS_cons ?_ ?_ | exact self_rows (fun _ => rfl) _ _ _); first | done | fail) rfl ?_ | refine tr_mcallV hP hG (c1) rfl (by (repeat' first | exact FzL.nil | refine FzL.cons ?_ ?_ | exact Fz.fr rfl | exact Fz.nil _ | exact Fz.s _ _ _ _ _ _ rfl (lM ..).symm | exact Fz.s _ _ _ _ _ _ rfl rfl | refine Fz.pL rfl ?_ | refine Fz.aggL ?_); first | done | fail) rfl rfl rfl rfl rfl rfl (by (repeat' first | rfl | exact selfS_nil | refine selfS_cons ?_ ?_ | exact self_rows (fun _ => rfl) _ _ _); first | done | fail) rfl ?_ | refine lT (tl_ixo rfl rfl rfl (Nat.le_of_ble_eq_true rfl)) ?_ | refine lT (tl_ldEC rfl rfl rfl) ?_ | refine tr_frzS 34 rfl rfl (hrn _) ?_ | refine tr_append rfl rfl rfl (.inr (.inr ⟨_, _, _, _, rfl, rfl, rfl⟩)) ⟨Nat.le_of_ble_eq_true rfl, Nat.le_of_ble_eq_true rfl⟩ rfl ?_ | fail)
  first | (refine again ?_ (w_canon 40 [0] [2, 3, 25, 26, 27] hp rfl rfl rfl rfl) ⟨_ + 1, ?_, rfl, rfl, rfl⟩ <;> decide) | exact tretX 24 [0] rfl hp rfl rfl rfl rfl ⟨rfl, rfl⟩
set_option maxHeartbeats 20000000 in
theorem tstate_3 (p : Prg) (s : State) (r0 : Rg) (r1 : Rg) (r2 : Rg) (hm : s.mem.length ≤ 1000000000) (ht : s.thr.length ≤ 3) (c0 : TC prog G 82 [.fp (cRg r0) 0] ⟨[], 0⟩ [] (fun v σ' => v = .s 0 2 0 r0.n true ∧ σ' = ⟨[(0, .rows 2 (r0.list.map cEntry) 103)], 1⟩)) (c1 : TC prog G 82 [.fp (cRg r1) 0] ⟨[], 0⟩ [] (fun v σ' => v = .s 0 2 0 r1.n true ∧ σ' = ⟨[(0, .rows 2 (r1.list.map cEntry) 103)], 1⟩)) (c2 : TC prog G 82 [.fp (cRg r2) 0] ⟨[], 0⟩ [] (fun v σ' => v = .s 0 2 0 r2.n true ∧ σ' = ⟨[(0, .rows 2 (r2.list.map cEntry) 103)], 1⟩)) :
  TC prog G 51 [.p 0 0] ⟨tsM p s [r0, r1, r2] 0, 20⟩ [0] (fun v σ' => v = .agg [.s 10 1 0 s.mem.length true, .s 11 16 0 s.thr.length true, .s 12 1 0 3 true, tI 0] ∧
   σ' = ⟨tsM p s [r0, r1, r2] 0 ++ [(10, memT s), (11, thrT s), (12, .rows 1 (([r0, r1, r2].map Rg.list).map cBuf) 96)], 24⟩) := by
 have e1 : (s.mem.map fun n => [tI n]).length = s.mem.length := lM ..
 have e2 : (s.thr.map cThr).length = s.thr.length := lM ..
 have hrn : ∀ r : Rg, r.n = (r.list.map cEntry).length := fun r => by rw [lM, r.list_len]
 refine TC.at mixedOk F51 rfl fun C hP hG hp => goF ?_; simp only [F51, targEnv, Nat.zero_add, Nat.reduceAdd]
 repeat' (first | refine goR rfl ?_ | refine goS rfl ?_ | refine tret1 rfl ?_ | refine tretN rfl ?_ | refine gY rfl rfl ?_ | refine gN rfl rfl ?_ | refine qT rfl rfl ?_ | refine qF rfl rfl ?_ | refine tr_append rfl rfl rfl (.inr (.inr ⟨_, _, _, _, rfl, rfl, (by first | exact e1.symm | exact e2.symm)⟩)) (by first | (simp; omega) | (simp only [List.length_nil]; omega)) rfl ?_ | fail)
 simp only [Nat.zero_add, e1, e2]
 refine loopS (fun m env σ => ∃ i, i ≤ 3 ∧ m = 3 - i ∧ env = [(2, .p 10 0), (3, .p 11 0), (25, .s 3 1 0 3 true), (26, tI 3), (27, tI i)] ∧
  σ = ⟨tsM p s [r0, r1, r2] 0 ++ [(10, .cells [.v (.slice none 0 0), .v (.slice none 0 0), .v (.slice none 0 0), tI 0] 41), (11, .cells [.s 12 1 0 s.mem.length true, .s 13 16 0 s.thr.length true, .s 14 1 0 i true, tI 0] 41), (12, memT s), (13, thrT s), (14, .rows 1 ((([r0, r1, r2].take i).map Rg.list).map cBuf) 96)], 40⟩) 3
  ((w_virtC (j := 23) (i := 2) 1 96 rfl rfl).trans (w_canon 40 [0] [2, 3, 25, 26, 27] hp rfl rfl rfl rfl)) ⟨0, by omega, by omega, rfl, rfl⟩ ?_
 rintro m1 env σ ⟨i, hi, rfl, rfl, rfl⟩
 have hi' : i = 0 ∨ i = 1 ∨ i = 2 ∨ i = 3 := by omega
 rcases hi' with rfl | rfl | rfl | rfl
 all_goals
  repeat' (first | refine goR rfl ?_ | refine goS rfl ?_ | refine tret1 rfl ?_ | refine tretN rfl ?_ | refine gY rfl rfl ?_ | refine gN rfl rfl ?_ | refine qT rfl rfl ?_ | refine qF rfl rfl ?_ | refine tr_mcallV hP hG (c0) rfl (by (repeat' first | exact FzL.nil | refine FzL.cons ?_ ?_ | exact Fz.fr rfl | exact Fz.nil _ | exact Fz.s _ _ _ _ _ _ rfl (lM ..).symm | exact Fz.s _ _ _ _ _ _ rfl rfl | refine Fz.pL rfl ?_ | refine Fz.aggL ?_); first | done | fail) rfl rfl rfl rfl rfl rfl (by (repeat' first | rfl | exact selfS_nil | refine selfS_cons ?_ ?_ | exact self_rows (fun _ => rfl) _ _ _); first | done | fail) rfl ?_ | refine tr_mcallV hP hG (c1) rfl (by (repeat' first | exact FzL.nil | refine FzL.cons ?_ ?_ | exact Fz.fr rfl | exact Fz.nil _ | exact Fz.s _ _ _ _ _ _ rfl (lM ..).symm | exact Fz.s _ _ _ _ _ _ rfl rfl | refine Fz.pL rfl ?_ | refine Fz.aggL ?_); first | done | fail) rfl rfl rfl rfl rfl rfl (by (repeat' first | rfl | exact selfS_nil | refine selfS_cons ?_ ?_ | exact self_rows (fun _ => rfl) _ _ _); first | done | fail) rfl ?_ | refine tr_mcallV hP hG (c2) rfl (by (repeat' first | exact FzL.nil | refine FzL.cons ?_ ?_ | exact Fz.fr rfl | exact Fz.nil _ | exact Fz.s _ _ _ _ _ _ rfl (lM ..).symm | exact Fz.s _ _ _ _ _ _ rfl rfl | refine Fz.pL rfl ?_ | refine Fz.aggL ?_); first | done | fail) rfl rfl rfl rfl rfl rfl (by (repeat' first | rfl | exact selfS_nil | refine selfS_cons ?_ ?_ | exact self_rows (fun _ => rfl) _ _ _); first | done | fail) rfl ?_ | refine lT (tl_ixo rfl rfl rfl (Nat.le_of_ble_eq_true rfl)) ?_ | refine lT (tl_ldEC rfl rfl rfl) ?_ | refine tr_frzS 34 rfl rfl (hrn _) ?_ | refine tr_append rfl rfl rfl (.inr (.inr ⟨_, _, _, _, rfl, rfl, rfl⟩)) ⟨Nat.le_of_ble_eq_true rfl, Nat.le_of_ble_eq_true rfl⟩ rfl ?_ | fail)
  first | (refine again ?_ (w_canon 40 [0] [2, 3, 25, 26, 27] hp rfl rfl rfl rfl) ⟨_ + 1, ?_, rfl, rfl, rfl⟩ <;> decide) | exact tretX 24 [0] rfl hp rfl rfl rfl rfl ⟨rfl, rfl⟩
theorem tstate_own (p : Prg) {m : Nat} (q : MS) (hq : mQ p m q) (hb : m ≤ 1000000) (hml : q.1.mem.length ≤ 1000000000) (hl3 : p.threads.length ≤ 3) :
  TC prog G 51 [.p 0 0] ⟨tsM p q.1 q.2 0, 20⟩ [0] (fun v σ' => v = .agg [.s (4 + 2 * q.2.length) 1 0 q.1.mem.length true, .s (5 + 2 * q.2.length) 16 0 q.1.thr.length true, .s (6 + 2 * q.2.length) 1 0 q.1.bufs.length true, tI q.1.lock] ∧
   σ' = ⟨tsM p q.1 q.2 0 ++ [(4 + 2 * q.2.length, memT q.1), (5 + 2 * q.2.length, thrT q.1), (6 + 2 * q.2.length, .rows 1 (q.1.bufs.map cBuf) 96)], 24⟩) := by
 obtain ⟨s, R⟩ := q
 obtain ⟨hst, hrg, hth, hlk⟩ := hq
 simp only at hst hrg hth hlk hml ⊢
 have hRl : R.length ≤ 3 := by have := hrg.len; omega
 have hcr : ∀ r ∈ R, TC prog G 82 [.fp (cRg r) 0] ⟨[], 0⟩ [] (fun v σ' => v = .s 0 2 0 r.n true ∧ σ' = ⟨[(0, .rows 2 (r.list.map cEntry) 103)], 1⟩) := fun r hr => rlist_own r (hrg.ok r hr) (by have := hrg.few r hr; omega)
 have hlen : s.bufs.length = R.length := by rw [hrg.bufs, lM]
 rw [hlen, hlk, hrg.bufs]
 rcases rows3 hRl with rfl | ⟨r0, rfl⟩ | ⟨r0, r1, rfl⟩ | ⟨r0, r1, r2, rfl⟩
 ·exact tstate_0 p s hml (by omega)
 ·exact tstate_1 p s r0 hml (by omega) (hcr r0 (by simp))
 ·exact tstate_2 p s r0 r1 hml (by omega) (hcr r0 (by simp)) (hcr r1 (by simp))
 ·exact tstate_3 p s r0 r1 r2 hml (by omega) (hcr r0 (by simp)) (hcr r1 (by simp)) (hcr r2 (by simp))
end
end Go.Proofs.YtpeifhiphfpajaaGreatDoor
namespace Go.Proofs.YtpeifhiphfpajaaGreatDoor
set_option maxRecDepth 20000
open Go Go.Proofs.YtpeifhiphfpajaaGreatDoor.V Go.Proofs
theorem mQ.split {p : Prg} {m m' : Nat} {q q' : MS} (h : mQ p m q) (h' : mQ p m' q') (h3 : p.threads.length ≤ 3) : ∃ s R, q = (s, R) ∧ R.length = q'.2.length ∧ R.length ≤ 3 := by
 have e1 := h.rg.len
 have e2 := h.thr
 have e3 := h'.rg.len
 have e4 := h'.thr
 exact ⟨q.1, q.2, rfl, by omega, by omega⟩
def pickP (th : Nat) (n : Int) : Int × Bool := (IntKind.i64.wrap (IntKind.i64.wrap (IntKind.i64.wrap ((n % ((2 * th + 3 : Nat) : Int)).tdiv 2) - 1) + (n % ((2 * th + 3 : Nat) : Int)).tmod 2), decide (IntKind.i64.wrap (BitVec.ofInt 64 n &&& BitVec.ofInt 64 32).toNat = 32))
def picksF (l : List Int) (th most : Nat) : List (Int × Bool) := (l.take most).map (pickP th)
theorem picksF_len (l : List Int) (th most : Nat) : (picksF l th most).length ≤ most := by rw [picksF, lM, List.length_take]; omega
theorem picksF_succ {l : List Int} {th i : Nat} {x : Int} (hx : l[i]? = some x) : picksF l th (i + 1) = picksF l th i ++ [pickP th x] := by
 unfold picksF
 rw [List.take_add_one, hx, List.map_append]; rfl
section
attribute [local irreducible] TwS TwR thenT inBlockT retT nextW localW loadedW swapW Rg.push Rg.pop tsoW doR
variable {G : World → Prop}
theorem picks_own (l : List Int) (th most : Nat) (hth : th ≤ 1000) (hm : most ≤ 1000) : TC prog G 7 [rwI l, tI th, tI most] ⟨[], 0⟩ [] (fun r σ' => r = .s 0 2 0 (picksF l th most).length true ∧ σ' = ⟨[(0, .rows 2 ((picksF l th most).map cPick) 47)], 1⟩) := by
 have hml : (l.map fun n => [tI n]).length = l.length := lM ..
 have e1 : IntKind.i64.wrap (IntKind.i64.wrap (2 * (th : Int)) + 3) = ((2 * th + 3 : Nat) : Int) := by rw [w64 (x := 2 * (th : Int)) (by omega), w64 (by omega)]; omega
 refine TC.at mixedOk F7 rfl fun C hP hG hp => goF ?_; simp only [F7, targEnv, Nat.zero_add, Nat.reduceAdd]
 repeat' (first | refine goR rfl ?_ | refine goS rfl ?_ | refine tret1 rfl ?_ | refine tretN rfl ?_ | refine gY rfl rfl ?_ | refine gN rfl rfl ?_ | refine qT rfl rfl ?_ | refine qF rfl rfl ?_ | fail)
 refine loopS (fun m env σ => ∃ i : Nat, i ≤ l.length ∧ i ≤ most ∧ m = most - i ∧ env = [(0, rwI l), (1, tI th), (2, tI most), (7, .s 0 2 0 i true), (8, tI i)] ∧ σ = ⟨[(0, .rows 2 ((picksF l th i).map cPick) 47)], 1⟩) most
  ((w_virt (d := 7) 2 47 rfl).trans (w_canon 1 [] [0, 1, 2, 7, 8] hp rfl rfl rfl rfl)) ⟨0, by omega, by omega, rfl, rfl, rfl⟩ ?_
 rintro m env σ ⟨i, hi, him, rfl, rfl, rfl⟩
 have hsl : (picksF l th i).length = i := by rw [picksF, lM, List.length_take]; omega
 by_cases hlt : i < l.length ∧ i < most
 ·have hx : l[i]? = some l[i] := List.getElem?_eq_getElem (by omega)
  generalize l[i] = x at hx
  have c : ∀ G, Pure prog G 20 [tI x, tI ((2 * th + 3 : Nat) : Int)] (tI (x % ((2 * th + 3 : Nat) : Int))) := fun G => pick_spec x (2 * th + 2) (by omega)
  rw [← e1] at c
  have hw1 : IntKind.i64.wrap ((i : Int) + 1) = ((i + 1 : Nat) : Int) := by rw [w64 (by omega)]; rfl
  repeat' (first | refine goR rfl ?_ | refine goS rfl ?_ | refine tret1 rfl ?_ | refine tretN rfl ?_ | refine gY rfl rfl ?_ | refine gN rfl rfl ?_ | refine qT rfl rfl ?_ | refine qF rfl rfl ?_ | refine cA rfl (by rw [hP]; exact c _) rfl ?_ | refine lT (tl_ixm rfl rfl rfl hx) ?_ | refine tr_append rfl rfl (by rw [lM, hsl]) (.inr (.inr ⟨_, _, _, _, rfl, rfl, rfl⟩)) (by simp only [List.length_cons, List.length_nil]; omega) rfl ?_ | ((first | refine gS rfl (fun h => ?_) (fun h => ?_) | refine ts_cond rfl (fun h => ?_) (fun h => ?_)) <;> (try simp only [bs0, beq_iff_eq] at h) <;> try (exfalso; omega; done)) | fail)
  refine again (m' := most - (i + 1)) (by omega) (w_canon 1 [] [0, 1, 2, 7, 8] hp rfl rfl rfl rfl) ⟨i + 1, by omega, by omega, rfl, by rw [hw1]; rfl, ?_⟩
  rw [picksF_succ hx, e1, List.map_append]; rfl
 ·have hfin : picksF l th most = picksF l th i := by
   unfold picksF
   by_cases h : i = most
   ·rw [h]
   ·rw [List.take_of_length_le (by omega), List.take_of_length_le (by omega)]
  rw [hfin, hsl]
  repeat' (first | refine goR rfl ?_ | refine goS rfl ?_ | refine tret1 rfl ?_ | refine tretN rfl ?_ | refine gY rfl rfl ?_ | refine gN rfl rfl ?_ | refine qT rfl rfl ?_ | refine qF rfl rfl ?_ | ((first | refine gS rfl (fun h => ?_) (fun h => ?_) | refine ts_cond rfl (fun h => ?_) (fun h => ?_)) <;> (try simp only [bs0, beq_iff_eq] at h) <;> try (exfalso; omega; done)) | fail)
  all_goals exact tretX 1 [] rfl hp rfl rfl rfl rfl ⟨rfl, rfl⟩
end
end Go.Proofs.YtpeifhiphfpajaaGreatDoor
