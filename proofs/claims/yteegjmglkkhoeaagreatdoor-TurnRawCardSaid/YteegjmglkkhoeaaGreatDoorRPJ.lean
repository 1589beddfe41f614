/-
  Walks of functions of the program, and what the laws need of them.
-/
import Derived.Test.YteegjmglkkhoeaaGreatDoorRPI
import Derived.Test.YteegjmglkkhoeaaGreatDoorRPH
set_option linter.all false
set_option linter.unusedSimpArgs false
set_option linter.unusedVariables false
set_option linter.unnecessarySimpa false
namespace Go.Proofs.YteegjmglkkhoeaaGreatDoor
set_option maxRecDepth 20000
open Go Go.Proofs.YteegjmglkkhoeaaGreatDoor.V Go.Proofs
def owM (p : Prg) (s : State) (R : List Rg) (k : Nat) : List (Nat × TObj) := (k, .cells [.fp (cCore p) 0, .s (k + 1) 1 0 s.mem.length true, .s (k + 2) 16 0 s.thr.length true, .s (k + 3) 1 0 R.length true, tI s.lock] 107) :: (k + 1, memT s) :: (k + 2, thrT s) :: (k + 3, bufsO (k + 4) R) :: ringsO (k + 4) R
theorem plainW_n {p : Prg} {s : State} {t : Nat} {x : Thr} {sh : Bool} (h : (nextW p t x).kind ≠ 2) : plainW p s t x sh = stepB p s t x := by
 unfold plainW; rw [if_neg (fun hc => h hc.1)]
theorem plainW_f {p : Prg} {s : State} {t : Nat} {x : Thr} : plainW p s t x false = stepB p s t x := by
 unfold plainW; rw [if_neg (fun hc => by cases hc.2)]
theorem plainW_t {p : Prg} {s : State} {t : Nat} {x : Thr} (h : (nextW p t x).kind = 2) : plainW p s t x true = (s, false) := by
 unfold plainW; rw [if_pos ⟨h, rfl⟩]
section
attribute [local irreducible] TwS TwR thenT inBlockT retT nextW localW loadedW swapW Rg.push Rg.pop
variable {G : World → Prop}
set_option maxHeartbeats 20000000 in
theorem oplain_own (p : Prg) (ho : okP p) (hc : checkC p = 0) (s : State) (hq : stQ p s) (R : List Rg) {m : Nat} (hr : rgQ s R m) (hm : m ≤ 1000000) (hl3 : s.thr.length ≤ 3) (k : Nat) (x : Thr) (hx : s.thr[k]? = some x) (hn4 : (nextW p k x).kind ≠ 4) (sh : Bool) :
  TC prog Tabs 51 [.p 0 0, tI k, tB sh] ⟨owM p s R 0, 20⟩ [0] (fun v σ' => v = tB (plainW p s k x sh).2 ∧ σ' = ⟨owM p (plainW p s k x sh).1 (doR p s R k false) 0, 20⟩) := by
 obtain ⟨r, hrk⟩ := hr.has hx
 have hb := hr.at hrk
 have hrm := List.mem_of_getElem? hrk
 have hrok := hr.ok r hrm
 obtain ⟨hrn, hrl⟩ := hr.few r hrm
 have hxq := hq.thr x (List.mem_of_getElem? hx)
 have hxt : (s.thr.map cThr)[k]? = some (cThr x) := by rw [List.getElem?_map, hx]; rfl
 have hkl : k < s.thr.length := (List.getElem?_eq_some_iff.1 hx).1
 have c1 := next_spec p ho hc k x hxq.r
 have c2 := localP_spec p ho hc k x hxq.r
 have c3 := fun v => loaded_spec p ho hc k x hxq.r v
 have c4 := fun v => swap_spec p ho hc k x hxq.r v
 have hadr := next_addr hc (t := k) (x := x)
 have d1 := fun G => rlen_spec (G := G) r
 have hrd : ∀ (h : (nextW p k x).kind = 2 ∨ (nextW p k x).kind = 3 ∨ (nextW p k x).kind = 4), ∃ a : Nat, (nextW p k x).addr = a ∧ a < s.mem.length ∧ (s.mem.map fun n => [tI n])[a]? = some [tI (rdM s (nextW p k x).addr)] := fun h => by
  obtain ⟨h1, h2⟩ := hadr h
  rw [← hq.len] at h2
  refine ⟨(nextW p k x).addr.toNat, by omega, by omega, ?_⟩
  rw [List.getElem?_map, rdM, List.getD_eq_getElem?_getD, List.getElem?_eq_getElem (by omega)]
  rfl
 have hr0 : r.n = 0 ↔ r.list = [] := Rg.len0
 have hRl : R.length ≤ 3 := by have := hr.len; omega
 have hpl := place3 hRl hrk
 have hk7 := nextW_kinds p k x
 generalize hnx : nextW p k x = d at *
 obtain ⟨dk, da, dv⟩ := d
 simp only at hadr hrd hk7 hn4
 by_cases k0 : dk = 0
 ·rw [plainW_n (by rw [hnx]; show dk ≠ 2; omega), stepB_0 (by rw [hnx]; exact k0), doR_n hx hrk (by rw [hnx]; show dk ≠ 3; omega)]
  subst k0
  clear hadr hrd c2 c3 c4 hk7 hnx
  rcases hpl with ⟨rfl, rfl⟩ | ⟨b, rfl, rfl⟩ | ⟨b, rfl, rfl⟩ | ⟨b, c, rfl, rfl⟩ | ⟨b, c, rfl, rfl⟩ | ⟨b, c, rfl, rfl⟩
  all_goals
   refine TC.at mixedOk F51 rfl fun C hP hG hp => goF ?_; simp only [F51, targEnv, Nat.zero_add, Nat.reduceAdd]
   repeat' (first | refine goR rfl ?_ | refine goS rfl ?_ | refine tret1 rfl ?_ | refine tretN rfl ?_ | refine gY rfl rfl ?_ | refine gN rfl rfl ?_ | refine qT rfl rfl ?_ | refine qF rfl rfl ?_ | refine lT (tl_ixo rfl rfl rfl hkl) ?_ | refine lT (tl_ixo rfl rfl rfl (Nat.le_of_ble_eq_true rfl)) ?_ | refine lT (tl_ldE rfl rfl hxt rfl) ?_ | refine lT (tl_ldEC rfl rfl rfl) ?_ | refine tr_storeE rfl rfl hxt rfl rfl rfl rfl rfl rfl ?_ | refine cA rfl (by rw [hP, hG]; exact c1) rfl ?_ | fail)
   first | exact tretX 20 [0] rfl hp rfl rfl rfl rfl ⟨rfl, rfl⟩ | (refine tretX 20 [0] rfl hp rfl rfl rfl rfl ⟨rfl, ?_⟩; simp only [owM, ringsO, bufsO, ptrsR, memT, thrT, List.length_set, List.map_set, List.set_cons_zero, List.set_cons_succ, List.length_cons, List.length_nil, Nat.zero_add, Nat.reduceAdd] <;> rfl)
 by_cases k2 : dk = 2
 ·obtain ⟨a, ha, hal, hag⟩ := hrd (.inl k2)
  cases sh with
  | true =>
   rw [plainW_t (by rw [hnx]; exact k2), doR_n hx hrk (by rw [hnx]; show dk ≠ 3; omega)]
   subst k2
   clear hadr hrd c2 c3 c4 hk7 hnx
   rcases hpl with ⟨rfl, rfl⟩ | ⟨b, rfl, rfl⟩ | ⟨b, rfl, rfl⟩ | ⟨b, c, rfl, rfl⟩ | ⟨b, c, rfl, rfl⟩ | ⟨b, c, rfl, rfl⟩
   all_goals
    refine TC.at mixedOk F51 rfl fun C hP hG hp => goF ?_; simp only [F51, targEnv, Nat.zero_add, Nat.reduceAdd]
    repeat' (first | refine goR rfl ?_ | refine goS rfl ?_ | refine tret1 rfl ?_ | refine tretN rfl ?_ | refine gY rfl rfl ?_ | refine gN rfl rfl ?_ | refine qT rfl rfl ?_ | refine qF rfl rfl ?_ | refine lT (tl_ixo rfl rfl rfl hkl) ?_ | refine lT (tl_ixo rfl rfl rfl (Nat.le_of_ble_eq_true rfl)) ?_ | refine lT (tl_ldE rfl rfl hxt rfl) ?_ | refine lT (tl_ldEC rfl rfl rfl) ?_ | refine cA rfl (by rw [hP, hG]; exact c1) rfl ?_ | fail)
    first | exact tretX 20 [0] rfl hp rfl rfl rfl rfl ⟨rfl, rfl⟩ | (refine tretX 20 [0] rfl hp rfl rfl rfl rfl ⟨rfl, ?_⟩; simp only [owM, ringsO, bufsO, ptrsR, memT, thrT, List.length_set, List.map_set, List.set_cons_zero, List.set_cons_succ, List.length_cons, List.length_nil, Nat.zero_add, Nat.reduceAdd] <;> rfl)
  | false =>
  rw [plainW_f, stepB_2 (by rw [hnx]; exact k2), doR_n hx hrk (by rw [hnx]; show dk ≠ 3; omega)]
  rw [hnx]
  have d2 := fun G => rlast_spec (G := G) r hrok (by omega) a
  subst ha k2
  simp only
  have hsn : seenW s k (a : Int) = (lastE r.list a).getD (rdM s a) := by unfold seenW; rw [hb]
  generalize seenW s k (a : Int) = v at hsn ⊢
  have c3 := c3 v
  generalize loadedW p (k : Int) x v = y at c3 ⊢
  clear hadr hrd c2 c4 hk7 hnx
  generalize rdM s (a : Int) = w at *
  generalize lastE r.list (a : Int) = o at *
  cases o
  all_goals
   simp only [Option.getD_none, Option.getD_some] at hsn
   subst hsn
   rcases hpl with ⟨rfl, rfl⟩ | ⟨b, rfl, rfl⟩ | ⟨b, rfl, rfl⟩ | ⟨b, c, rfl, rfl⟩ | ⟨b, c, rfl, rfl⟩ | ⟨b, c, rfl, rfl⟩
  all_goals
   refine TC.at mixedOk F51 rfl fun C hP hG hp => goF ?_; simp only [F51, targEnv, Nat.zero_add, Nat.reduceAdd]
   repeat' (first | refine goR rfl ?_ | refine goS rfl ?_ | refine tret1 rfl ?_ | refine tretN rfl ?_ | refine gY rfl rfl ?_ | refine gN rfl rfl ?_ | refine qT rfl rfl ?_ | refine qF rfl rfl ?_ | refine lT (tl_ixo rfl rfl rfl hkl) ?_ | refine lT (tl_ixo rfl rfl rfl (Nat.le_of_ble_eq_true rfl)) ?_ | refine lT (tl_ldE rfl rfl hxt rfl) ?_ | refine lT (tl_ldEC rfl rfl rfl) ?_ | refine tr_storeE rfl rfl hxt rfl rfl rfl rfl rfl rfl ?_ | refine cA rfl (by rw [hP, hG]; exact c1) rfl ?_ | refine lT (tl_ixo (m := a) rfl rfl rfl hal) ?_ | refine lT (tl_ldE rfl rfl hag rfl) ?_ | refine tr_storeE rfl rfl hag rfl rfl rfl rfl rfl rfl ?_ | refine cA rfl (by rw [hP, hG]; exact c3) rfl ?_ | refine tr_callV hP hG (d1 _) rfl (by (repeat' first | exact FzL.nil | refine FzL.cons ?_ ?_ | exact Fz.fr rfl | exact Fz.nil _ | exact Fz.s _ _ _ _ _ _ rfl (lM ..).symm | exact Fz.s _ _ _ _ _ _ rfl rfl | refine Fz.pL rfl ?_ | refine Fz.aggL ?_); first | done | fail) rfl ?_ | refine tr_callV hP hG (d2 _) rfl (by (repeat' first | exact FzL.nil | refine FzL.cons ?_ ?_ | exact Fz.fr rfl | exact Fz.nil _ | exact Fz.s _ _ _ _ _ _ rfl (lM ..).symm | exact Fz.s _ _ _ _ _ _ rfl rfl | refine Fz.pL rfl ?_ | refine Fz.aggL ?_); first | done | fail) rfl ?_ | fail)
   first | exact tretX 20 [0] rfl hp rfl rfl rfl rfl ⟨rfl, rfl⟩ | (refine tretX 20 [0] rfl hp rfl rfl rfl rfl ⟨rfl, ?_⟩; simp only [owM, ringsO, bufsO, ptrsR, memT, thrT, List.length_set, List.map_set, List.set_cons_zero, List.set_cons_succ, List.length_cons, List.length_nil, Nat.zero_add, Nat.reduceAdd] <;> rfl)
 by_cases k3 : dk = 3
 ·obtain ⟨a, ha, hal, hag⟩ := hrd (.inr (.inl k3))
  rw [plainW_n (by rw [hnx]; show dk ≠ 2; omega), stepB_3 (by rw [hnx]; exact k3), doR_3 hx hrk (by rw [hnx]; exact k3)]
  rw [hnx]
  have d3 := rpush_own (G := Tabs) r hrok (by omega) ⟨a, dv⟩
  subst ha k3
  simp only
  generalize bufAt s k ++ _ = bb
  generalize localW p k x = y at *
  generalize r.push ⟨a, dv⟩ = r' at *
  clear hadr hrd c3 c4 hk7 hnx
  rcases hpl with ⟨rfl, rfl⟩ | ⟨b, rfl, rfl⟩ | ⟨b, rfl, rfl⟩ | ⟨b, c, rfl, rfl⟩ | ⟨b, c, rfl, rfl⟩ | ⟨b, c, rfl, rfl⟩
  all_goals
   refine TC.at mixedOk F51 rfl fun C hP hG hp => goF ?_; simp only [F51, targEnv, Nat.zero_add, Nat.reduceAdd]
   repeat' (first | refine goR rfl ?_ | refine goS rfl ?_ | refine tret1 rfl ?_ | refine tretN rfl ?_ | refine gY rfl rfl ?_ | refine gN rfl rfl ?_ | refine qT rfl rfl ?_ | refine qF rfl rfl ?_ | refine lT (tl_ixo rfl rfl rfl hkl) ?_ | refine lT (tl_ixo rfl rfl rfl (Nat.le_of_ble_eq_true rfl)) ?_ | refine lT (tl_ldE rfl rfl hxt rfl) ?_ | refine lT (tl_ldEC rfl rfl rfl) ?_ | refine tr_storeE rfl rfl hxt rfl rfl rfl rfl rfl rfl ?_ | refine cA rfl (by rw [hP, hG]; exact c1) rfl ?_ | refine cA rfl (by rw [hP, hG]; exact c2) rfl ?_ | refine tr_callV hP hG (d1 _) rfl (by (repeat' first | exact FzL.nil | refine FzL.cons ?_ ?_ | exact Fz.fr rfl | exact Fz.nil _ | exact Fz.s _ _ _ _ _ _ rfl (lM ..).symm | exact Fz.s _ _ _ _ _ _ rfl rfl | refine Fz.pL rfl ?_ | refine Fz.aggL ?_); first | done | fail) rfl ?_ | refine tr_mcallX hP hG (d3) rfl rfl rfl rfl rfl rfl rfl rfl rfl rfl rfl rfl ?_ | fail)
   first | exact tretX 20 [0] rfl hp rfl rfl rfl rfl ⟨rfl, rfl⟩ | (refine tretX 20 [0] rfl hp rfl rfl rfl rfl ⟨rfl, ?_⟩; simp only [owM, ringsO, bufsO, ptrsR, memT, thrT, List.length_set, List.map_set, List.set_cons_zero, List.set_cons_succ, List.length_cons, List.length_nil, Nat.zero_add, Nat.reduceAdd] <;> rfl)
 have hd3 := doR_n (p := p) hx hrk (by rw [hnx]; exact k3)
 rw [hd3]
 rw [plainW_n (by rw [hnx]; exact k2)]
 by_cases kw : (dk = 4 ∨ dk = 5) ∧ r.n ≠ 0
 ·rw [stepB_w (by rw [hnx]; exact kw.1) (by rw [hb]; exact fun h => kw.2 (hr0.2 h))]
  obtain ⟨kw, kn⟩ := kw
  clear hadr hrd c2 c3 c4 hk7 hnx
  obtain rfl : dk = 5 := kw.resolve_left hn4
  all_goals
   rcases hpl with ⟨rfl, rfl⟩ | ⟨b, rfl, rfl⟩ | ⟨b, rfl, rfl⟩ | ⟨b, c, rfl, rfl⟩ | ⟨b, c, rfl, rfl⟩ | ⟨b, c, rfl, rfl⟩
  all_goals
   refine TC.at mixedOk F51 rfl fun C hP hG hp => goF ?_; simp only [F51, targEnv, Nat.zero_add, Nat.reduceAdd]
   repeat' (first | refine goR rfl ?_ | refine goS rfl ?_ | refine tret1 rfl ?_ | refine tretN rfl ?_ | refine gY rfl rfl ?_ | refine gN rfl rfl ?_ | refine qT rfl rfl ?_ | refine qF rfl rfl ?_ | refine lT (tl_ixo rfl rfl rfl hkl) ?_ | refine lT (tl_ixo rfl rfl rfl (Nat.le_of_ble_eq_true rfl)) ?_ | refine lT (tl_ldE rfl rfl hxt rfl) ?_ | refine lT (tl_ldEC rfl rfl rfl) ?_ | refine tr_storeE rfl rfl hxt rfl rfl rfl rfl rfl rfl ?_ | refine cA rfl (by rw [hP, hG]; exact c1) rfl ?_ | refine tr_callV hP hG (d1 _) rfl (by (repeat' first | exact FzL.nil | refine FzL.cons ?_ ?_ | exact Fz.fr rfl | exact Fz.nil _ | exact Fz.s _ _ _ _ _ _ rfl (lM ..).symm | exact Fz.s _ _ _ _ _ _ rfl rfl | refine Fz.pL rfl ?_ | refine Fz.aggL ?_); first | done | fail) rfl ?_ | refine qT rfl kn ?_ | ((first | refine gS rfl (fun h => ?_) (fun h => ?_) | refine ts_cond rfl (fun h => ?_) (fun h => ?_)) <;> (try simp only [bs0, beq_iff_eq] at h) <;> try (exfalso; first | omega | exact h rfl; done)) | fail)
   all_goals first | exact tretX 20 [0] rfl hp rfl rfl rfl rfl ⟨rfl, rfl⟩ | (refine tretX 20 [0] rfl hp rfl rfl rfl rfl ⟨rfl, ?_⟩; simp only [owM, ringsO, bufsO, ptrsR, memT, thrT, List.length_set, List.map_set, List.set_cons_zero, List.set_cons_succ, List.length_cons, List.length_nil, Nat.zero_add, Nat.reduceAdd] <;> rfl)
 have k4 := hn4
 rw [stepB_5 (by rw [hnx]; exact k0) (by rw [hnx]; exact k2) (by rw [hnx]; exact k3) (by rw [hnx]; exact k4) (fun h => by rw [hb]; rw [hnx] at h; exact hr0.1 (Classical.byContradiction fun h' => kw ⟨.inr h, h'⟩))]
 have kn : dk = 5 → r.n = 0 := fun h => Classical.byContradiction fun h' => kw ⟨.inr h, h'⟩
 generalize localW p k x = y at *
 have hk3 : dk = 1 ∨ dk = 5 ∨ dk = 6 := by omega
 clear hadr hrd c3 c4 hk7 hnx
 rcases hk3 with rfl | rfl | rfl
 all_goals
  rcases hpl with ⟨rfl, rfl⟩ | ⟨b, rfl, rfl⟩ | ⟨b, rfl, rfl⟩ | ⟨b, c, rfl, rfl⟩ | ⟨b, c, rfl, rfl⟩ | ⟨b, c, rfl, rfl⟩
 all_goals
  refine TC.at mixedOk F51 rfl fun C hP hG hp => goF ?_; simp only [F51, targEnv, Nat.zero_add, Nat.reduceAdd]
  repeat' (first | refine goR rfl ?_ | refine goS rfl ?_ | refine tret1 rfl ?_ | refine tretN rfl ?_ | refine gY rfl rfl ?_ | refine gN rfl rfl ?_ | refine qT rfl rfl ?_ | refine qF rfl rfl ?_ | refine lT (tl_ixo rfl rfl rfl hkl) ?_ | refine lT (tl_ixo rfl rfl rfl (Nat.le_of_ble_eq_true rfl)) ?_ | refine lT (tl_ldE rfl rfl hxt rfl) ?_ | refine lT (tl_ldEC rfl rfl rfl) ?_ | refine tr_storeE rfl rfl hxt rfl rfl rfl rfl rfl rfl ?_ | refine cA rfl (by rw [hP, hG]; exact c1) rfl ?_ | refine cA rfl (by rw [hP, hG]; exact c2) rfl ?_ | refine tr_callV hP hG (d1 _) rfl (by (repeat' first | exact FzL.nil | refine FzL.cons ?_ ?_ | exact Fz.fr rfl | exact Fz.nil _ | exact Fz.s _ _ _ _ _ _ rfl (lM ..).symm | exact Fz.s _ _ _ _ _ _ rfl rfl | refine Fz.pL rfl ?_ | refine Fz.aggL ?_); first | done | fail) rfl ?_ | refine qF rfl (kn rfl) ?_ | ((first | refine gS rfl (fun h => ?_) (fun h => ?_) | refine ts_cond rfl (fun h => ?_) (fun h => ?_)) <;> (try simp only [bs0, beq_iff_eq] at h) <;> try (exfalso; first | omega | exact h rfl; done)) | fail)
  all_goals first | exact tretX 20 [0] rfl hp rfl rfl rfl rfl ⟨rfl, rfl⟩ | (refine tretX 20 [0] rfl hp rfl rfl rfl rfl ⟨rfl, ?_⟩; simp only [owM, ringsO, bufsO, ptrsR, memT, thrT, List.length_set, List.map_set, List.set_cons_zero, List.set_cons_succ, List.length_cons, List.length_nil, Nat.zero_add, Nat.reduceAdd] <;> rfl)
end
end Go.Proofs.YteegjmglkkhoeaaGreatDoor
namespace Go.Proofs.YteegjmglkkhoeaaGreatDoor
set_option maxRecDepth 20000
open Go Go.Proofs.YteegjmglkkhoeaaGreatDoor.V Go.Proofs
section
variable {p : Prg} {s : State} {t : Nat} {x : Thr}
theorem lockedW_0 (h : x.ph = 0) : lockedW p s t x = ({ s with lock := (t : Int) + 1, thr := s.thr.set t { x with ph := 1 } }, true) := by
 unfold lockedW; rw [if_pos h]
theorem lockedW_1 (h : x.ph = 1) : lockedW p s t x = ({ s with thr := s.thr.set t { x with la := seenW s t (nextW p t (zPh x)).addr, ph := 2 } }, true) := by
 unfold lockedW; rw [if_neg (by omega), if_pos h]
theorem lockedW_2 (h : x.ph = 2) (hw : (swapW p t (zPh x) x.la).2.2 = true) : lockedW p s t x = ({ s with thr := s.thr.set t { x with ph := 3 }, bufs := s.bufs.set t (bufAt s t ++ [⟨(nextW p t (zPh x)).addr, (swapW p t (zPh x) x.la).2.1⟩]) }, true) := by
 unfold lockedW; rw [if_neg (by omega), if_neg (by omega), if_pos ⟨h, hw⟩]
theorem lockedW_w (h0 : x.ph ≠ 0) (h1 : x.ph ≠ 1) (h : ¬ (x.ph = 2 ∧ (swapW p t (zPh x) x.la).2.2 = true)) (hb : bufAt s t ≠ []) : lockedW p s t x = (s, false) := by
 unfold lockedW; rw [if_neg h0, if_neg h1, if_neg h, if_pos hb]
theorem lockedW_e (h0 : x.ph ≠ 0) (h1 : x.ph ≠ 1) (h : ¬ (x.ph = 2 ∧ (swapW p t (zPh x) x.la).2.2 = true)) (hb : bufAt s t = []) : lockedW p s t x = ({ s with thr := s.thr.set t (swapW p t (zPh x) x.la).1, lock := 0 }, true) := by
 unfold lockedW; rw [if_neg h0, if_neg h1, if_neg h, if_neg (fun hc => hc hb)]
theorem lockR_n {R : List Rg} (h : ¬ (x.ph = 2 ∧ (swapW p t (zPh x) x.la).2.2 = true)) : lockR p R t x = R := by
 unfold lockR
 split
 ·rw [if_neg h]
 ·rfl
theorem lockR_2 {R : List Rg} {r : Rg} (hr : R[t]? = some r) (h : x.ph = 2 ∧ (swapW p t (zPh x) x.la).2.2 = true) : lockR p R t x = R.set t (r.push ⟨(nextW p t (zPh x)).addr, (swapW p t (zPh x) x.la).2.1⟩) := by
 unfold lockR
 rw [hr]
 simp only
 rw [if_pos h]
end
section
attribute [local irreducible] TwS TwR thenT inBlockT retT nextW localW loadedW swapW Rg.push Rg.pop
variable {G : World → Prop}
set_option maxHeartbeats 20000000 in
theorem olock_own (p : Prg) (ho : okP p) (hc : checkC p = 0) (s : State) (hq : stQ p s) (R : List Rg) {m : Nat} (hr : rgQ s R m) (hm : m ≤ 1000000) (hl3 : s.thr.length ≤ 3) (k : Nat) (x : Thr) (hx : s.thr[k]? = some x) (h4 : (nextW p k (zPh x)).kind = 4) :
  TC prog Tabs 50 [.p 0 0, tI k, .agg (cThr (zPh x)), tI (nextW p k (zPh x)).addr] ⟨owM p s R 0, 20⟩ [0] (fun v σ' => v = tB (lockedW p s k x).2 ∧ σ' = ⟨owM p (lockedW p s k x).1 (lockR p R k x) 0, 20⟩) := by
 obtain ⟨r, hrk⟩ := hr.has hx
 have hb := hr.at hrk
 have hrm := List.mem_of_getElem? hrk
 have hrok := hr.ok r hrm
 obtain ⟨hrn, hrl⟩ := hr.few r hrm
 have hxq := hq.thr x (List.mem_of_getElem? hx)
 have hxt : (s.thr.map cThr)[k]? = some (cThr x) := by rw [List.getElem?_map, hx]; rfl
 have hkl : k < s.thr.length := (List.getElem?_eq_some_iff.1 hx).1
 have hkm : k < (s.thr.map cThr).length := by rw [lM]; exact hkl
 have c4 := swap_spec p ho hc k (zPh x) (zPh_in hxq).r x.la
 obtain ⟨h1, h2⟩ := next_addr hc (t := k) (x := zPh x) (.inr (.inr h4))
 rw [← hq.len] at h2
 obtain ⟨a, ha⟩ : ∃ a : Nat, (nextW p k (zPh x)).addr = a := ⟨_, (Int.toNat_of_nonneg h1).symm⟩
 have hal : a < s.mem.length := by omega
 have hag : (s.mem.map fun n => [tI n])[a]? = some [tI (rdM s a)] := by
  rw [List.getElem?_map, rdM, Int.toNat_natCast, List.getD_eq_getElem?_getD, List.getElem?_eq_getElem hal]; rfl
 have d1 := fun G => rlen_spec (G := G) r
 have d2 := fun G => rlast_spec (G := G) r hrok (by omega) a
 have hr0 : r.n = 0 ↔ r.list = [] := Rg.len0
 have hRl : R.length ≤ 3 := by have := hr.len; omega
 have hpl := place3 hRl hrk
 have hwk : IntKind.i64.wrap ((k : Int) + 1) = (k : Int) + 1 := w64 (by omega)
 rw [ha]
 by_cases p0 : x.ph = 0
 ·rw [lockedW_0 p0, lockR_n (by omega)]
  clear c4 h4 h1 h2 ha hag d1 d2
  rcases hpl with ⟨rfl, rfl⟩ | ⟨b, rfl, rfl⟩ | ⟨b, rfl, rfl⟩ | ⟨b, c, rfl, rfl⟩ | ⟨b, c, rfl, rfl⟩ | ⟨b, c, rfl, rfl⟩
  all_goals
   refine TC.at mixedOk F50 rfl fun C hP hG hp => goF ?_; simp only [F50, targEnv, Nat.zero_add, Nat.reduceAdd]
   repeat' (first | refine goR rfl ?_ | refine goS rfl ?_ | refine tret1 rfl ?_ | refine tretN rfl ?_ | refine gY rfl rfl ?_ | refine gN rfl rfl ?_ | refine qT rfl rfl ?_ | refine qF rfl rfl ?_ | refine lT (tl_ixo rfl rfl rfl hkl) ?_ | refine lT (tl_ixo rfl rfl rfl (Nat.le_of_ble_eq_true rfl)) ?_ | refine lT (tl_ldE rfl rfl hxt rfl) ?_ | refine lT (tl_ldEC rfl rfl rfl) ?_ | refine tr_storeE rfl rfl hxt rfl rfl rfl rfl rfl rfl ?_ | refine tr_storeE rfl rfl (List.getElem?_set_self hkm) rfl rfl rfl rfl rfl rfl ?_ | ((first | refine gS rfl (fun h => ?_) (fun h => ?_) | refine ts_cond rfl (fun h => ?_) (fun h => ?_)) <;> (try simp only [bs0, beq_iff_eq] at h) <;> try (exfalso; omega; done)) | fail)
   refine tretX 20 [0] rfl hp rfl rfl rfl rfl ⟨rfl, ?_⟩
   rw [hwk]
   simp only [owM, ringsO, bufsO, ptrsR, memT, thrT, List.length_set, List.map_set, List.set_cons_zero, List.set_cons_succ, List.length_cons, List.length_nil, Nat.zero_add, Nat.reduceAdd] <;> rfl
 by_cases p1 : x.ph = 1
 ·rw [lockedW_1 p1, lockR_n (by omega), ha]
  have hsn : seenW s k (a : Int) = (lastE r.list a).getD (rdM s a) := by unfold seenW; rw [hb]
  generalize seenW s k (a : Int) = v at hsn ⊢
  clear c4 h4 h1 h2 ha
  generalize rdM s (a : Int) = w at *
  generalize lastE r.list (a : Int) = o at *
  cases o
  all_goals
   simp only [Option.getD_none, Option.getD_some] at hsn
   subst hsn
   rcases hpl with ⟨rfl, rfl⟩ | ⟨b, rfl, rfl⟩ | ⟨b, rfl, rfl⟩ | ⟨b, c, rfl, rfl⟩ | ⟨b, c, rfl, rfl⟩ | ⟨b, c, rfl, rfl⟩
  all_goals
   refine TC.at mixedOk F50 rfl fun C hP hG hp => goF ?_; simp only [F50, targEnv, Nat.zero_add, Nat.reduceAdd]
   repeat' (first | refine goR rfl ?_ | refine goS rfl ?_ | refine tret1 rfl ?_ | refine tretN rfl ?_ | refine gY rfl rfl ?_ | refine gN rfl rfl ?_ | refine qT rfl rfl ?_ | refine qF rfl rfl ?_ | refine lT (tl_ixo rfl rfl rfl hkl) ?_ | refine lT (tl_ixo rfl rfl rfl (Nat.le_of_ble_eq_true rfl)) ?_ | refine lT (tl_ldE rfl rfl hxt rfl) ?_ | refine lT (tl_ldEC rfl rfl rfl) ?_ | refine tr_storeE rfl rfl hxt rfl rfl rfl rfl rfl rfl ?_ | refine tr_storeE rfl rfl (List.getElem?_set_self hkm) rfl rfl rfl rfl rfl rfl ?_ | refine lT (tl_ixo (m := a) rfl rfl rfl hal) ?_ | refine lT (tl_ldE rfl rfl hag rfl) ?_ | refine tr_callV hP hG (d1 _) rfl (by (repeat' first | exact FzL.nil | refine FzL.cons ?_ ?_ | exact Fz.fr rfl | exact Fz.nil _ | exact Fz.s _ _ _ _ _ _ rfl (lM ..).symm | exact Fz.s _ _ _ _ _ _ rfl rfl | refine Fz.pL rfl ?_ | refine Fz.aggL ?_); first | done | fail) rfl ?_ | refine tr_callV hP hG (d2 _) rfl (by (repeat' first | exact FzL.nil | refine FzL.cons ?_ ?_ | exact Fz.fr rfl | exact Fz.nil _ | exact Fz.s _ _ _ _ _ _ rfl (lM ..).symm | exact Fz.s _ _ _ _ _ _ rfl rfl | refine Fz.pL rfl ?_ | refine Fz.aggL ?_); first | done | fail) rfl ?_ | ((first | refine gS rfl (fun h => ?_) (fun h => ?_) | refine ts_cond rfl (fun h => ?_) (fun h => ?_)) <;> (try simp only [bs0, beq_iff_eq] at h) <;> try (exfalso; omega; done)) | fail)
   refine tretX 20 [0] rfl hp rfl rfl rfl rfl ⟨rfl, ?_⟩
   simp only [owM, ringsO, bufsO, ptrsR, memT, thrT, List.length_set, List.map_set, List.set_cons_zero, List.set_cons_succ, List.length_cons, List.length_nil, Nat.zero_add, Nat.reduceAdd] <;> simp only [List.set_set] <;> rfl
 by_cases p2 : x.ph = 2 ∧ (swapW p k (zPh x) x.la).2.2 = true
 ·rw [lockedW_2 p2.1 p2.2, lockR_2 hrk p2, ha]
  have d3 := rpush_own (G := Tabs) r hrok (by omega) ⟨a, (swapW p k (zPh x) x.la).2.1⟩
  generalize bufAt s k ++ _ = bb
  generalize swapW p k (zPh x) x.la = w at *
  obtain ⟨y2, v2, b2⟩ := w
  obtain ⟨p2, rfl⟩ := p2
  simp only at d3 ⊢
  generalize r.push ⟨a, v2⟩ = r' at *
  clear h4 h1 h2 ha hag d2
  rcases hpl with ⟨rfl, rfl⟩ | ⟨b, rfl, rfl⟩ | ⟨b, rfl, rfl⟩ | ⟨b, c, rfl, rfl⟩ | ⟨b, c, rfl, rfl⟩ | ⟨b, c, rfl, rfl⟩
  all_goals
   refine TC.at mixedOk F50 rfl fun C hP hG hp => goF ?_; simp only [F50, targEnv, Nat.zero_add, Nat.reduceAdd]
   repeat' (first | refine goR rfl ?_ | refine goS rfl ?_ | refine tret1 rfl ?_ | refine tretN rfl ?_ | refine gY rfl rfl ?_ | refine gN rfl rfl ?_ | refine qT rfl rfl ?_ | refine qF rfl rfl ?_ | refine lT (tl_ixo rfl rfl rfl hkl) ?_ | refine lT (tl_ixo rfl rfl rfl (Nat.le_of_ble_eq_true rfl)) ?_ | refine lT (tl_ldE rfl rfl hxt rfl) ?_ | refine lT (tl_ldEC rfl rfl rfl) ?_ | refine tr_storeE rfl rfl hxt rfl rfl rfl rfl rfl rfl ?_ | refine cA rfl (by rw [hP, hG]; exact c4) rfl ?_ | refine tr_mcallX hP hG (d3) rfl rfl rfl rfl rfl rfl rfl rfl rfl rfl rfl rfl ?_ | ((first | refine gS rfl (fun h => ?_) (fun h => ?_) | refine ts_cond rfl (fun h => ?_) (fun h => ?_)) <;> (try simp only [bs0, beq_iff_eq] at h) <;> try (exfalso; omega; done)) | fail)
   refine tretX 20 [0] rfl hp rfl rfl rfl rfl ⟨rfl, ?_⟩
   simp only [owM, ringsO, bufsO, ptrsR, memT, thrT, List.length_set, List.map_set, List.set_cons_zero, List.set_cons_succ, List.length_cons, List.length_nil, Nat.zero_add, Nat.reduceAdd] <;> rfl
 by_cases kn : r.n = 0
 ·rw [lockedW_e p0 p1 p2 (by rw [hb]; exact hr0.1 kn), lockR_n p2]
  generalize swapW p k (zPh x) x.la = w at *
  obtain ⟨y2, v2, b2⟩ := w
  clear h4 h1 h2 ha hag d2
  simp only at p2 ⊢
  cases b2
  all_goals
   simp only [Bool.false_eq_true, and_true, and_false, not_false_eq_true] at p2
   rcases hpl with ⟨rfl, rfl⟩ | ⟨b, rfl, rfl⟩ | ⟨b, rfl, rfl⟩ | ⟨b, c, rfl, rfl⟩ | ⟨b, c, rfl, rfl⟩ | ⟨b, c, rfl, rfl⟩
  all_goals
   refine TC.at mixedOk F50 rfl fun C hP hG hp => goF ?_; simp only [F50, targEnv, Nat.zero_add, Nat.reduceAdd]
   repeat' (first | refine goR rfl ?_ | refine goS rfl ?_ | refine tret1 rfl ?_ | refine tretN rfl ?_ | refine gY rfl rfl ?_ | refine gN rfl rfl ?_ | refine qT rfl rfl ?_ | refine qF rfl rfl ?_ | refine lT (tl_ixo rfl rfl rfl hkl) ?_ | refine lT (tl_ixo rfl rfl rfl (Nat.le_of_ble_eq_true rfl)) ?_ | refine lT (tl_ldE rfl rfl hxt rfl) ?_ | refine lT (tl_ldEC rfl rfl rfl) ?_ | refine tr_storeE rfl rfl hxt rfl rfl rfl rfl rfl rfl ?_ | refine cA rfl (by rw [hP, hG]; exact c4) rfl ?_ | refine tr_callV hP hG (d1 _) rfl (by (repeat' first | exact FzL.nil | refine FzL.cons ?_ ?_ | exact Fz.fr rfl | exact Fz.nil _ | exact Fz.s _ _ _ _ _ _ rfl (lM ..).symm | exact Fz.s _ _ _ _ _ _ rfl rfl | refine Fz.pL rfl ?_ | refine Fz.aggL ?_); first | done | fail) rfl ?_ | ((first | refine gS rfl (fun h => ?_) (fun h => ?_) | refine ts_cond rfl (fun h => ?_) (fun h => ?_)) <;> (try simp only [bs0, beq_iff_eq] at h) <;> try (exfalso; omega; done)) | fail)
   all_goals (refine tretX 20 [0] rfl hp rfl rfl rfl rfl ⟨rfl, ?_⟩; simp only [owM, ringsO, bufsO, ptrsR, memT, thrT, List.length_set, List.map_set, List.set_cons_zero, List.set_cons_succ, List.length_cons, List.length_nil, Nat.zero_add, Nat.reduceAdd] <;> rfl)
 ·rw [lockedW_w p0 p1 p2 (by rw [hb]; exact fun h => kn (hr0.2 h)), lockR_n p2]
  generalize swapW p k (zPh x) x.la = w at *
  obtain ⟨y2, v2, b2⟩ := w
  clear h4 h1 h2 ha hag d2
  simp only at p2 ⊢
  cases b2
  all_goals
   simp only [Bool.false_eq_true, and_true, and_false, not_false_eq_true] at p2
   rcases hpl with ⟨rfl, rfl⟩ | ⟨b, rfl, rfl⟩ | ⟨b, rfl, rfl⟩ | ⟨b, c, rfl, rfl⟩ | ⟨b, c, rfl, rfl⟩ | ⟨b, c, rfl, rfl⟩
  all_goals
   refine TC.at mixedOk F50 rfl fun C hP hG hp => goF ?_; simp only [F50, targEnv, Nat.zero_add, Nat.reduceAdd]
   repeat' (first | refine goR rfl ?_ | refine goS rfl ?_ | refine tret1 rfl ?_ | refine tretN rfl ?_ | refine gY rfl rfl ?_ | refine gN rfl rfl ?_ | refine qT rfl rfl ?_ | refine qF rfl rfl ?_ | refine lT (tl_ixo rfl rfl rfl hkl) ?_ | refine lT (tl_ixo rfl rfl rfl (Nat.le_of_ble_eq_true rfl)) ?_ | refine lT (tl_ldE rfl rfl hxt rfl) ?_ | refine lT (tl_ldEC rfl rfl rfl) ?_ | refine tr_storeE rfl rfl hxt rfl rfl rfl rfl rfl rfl ?_ | refine cA rfl (by rw [hP, hG]; exact c4) rfl ?_ | refine tr_callV hP hG (d1 _) rfl (by (repeat' first | exact FzL.nil | refine FzL.cons ?_ ?_ | exact Fz.fr rfl | exact Fz.nil _ | exact Fz.s _ _ _ _ _ _ rfl (lM ..).symm | exact Fz.s _ _ _ _ _ _ rfl rfl | refine Fz.pL rfl ?_ | refine Fz.aggL ?_); first | done | fail) rfl ?_ | ((first | refine gS rfl (fun h => ?_) (fun h => ?_) | refine ts_cond rfl (fun h => ?_) (fun h => ?_)) <;> (try simp only [bs0, beq_iff_eq] at h) <;> try (exfalso; omega; done)) | fail)
   all_goals exact tretX 20 [0] rfl hp rfl rfl rfl rfl ⟨rfl, rfl⟩
end
end Go.Proofs.YteegjmglkkhoeaaGreatDoor
