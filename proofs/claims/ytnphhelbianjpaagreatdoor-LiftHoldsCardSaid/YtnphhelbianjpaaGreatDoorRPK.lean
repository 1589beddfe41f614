/-
  Walks of functions of the program, and what the laws need of them.
-/
import Derived.Test.YtnphhelbianjpaaGreatDoorRPI
import Derived.Test.YtnphhelbianjpaaGreatDoorRPH
import Derived.Test.YtnphhelbianjpaaGreatDoorVI
set_option linter.all false
set_option linter.unusedSimpArgs false
set_option linter.unusedVariables false
set_option linter.unnecessarySimpa false
namespace Go.Proofs.YtnphhelbianjpaaGreatDoor
set_option maxRecDepth 20000
open Go Go.Proofs.YtnphhelbianjpaaGreatDoor.V Go.Proofs
def rfT (s : State) (k : Nat) : List (Nat × TObj) := [(k, .cells [.s (k + 1) 1 0 s.mem.length true, .s (k + 2) 16 0 s.thr.length true, .s (k + 3) 1 0 s.bufs.length true, tI s.lock] 46), (k + 1, memT s), (k + 2, thrT s), (k + 3, .rows 1 (s.bufs.map cBuf) 103)]
section
attribute [local irreducible] TwS TwR thenT inBlockT retT nextW localW loadedW swapW
variable {G : World → Prop}
theorem last_spec (l : List Entry) (hb : l.length ≤ 1000000000) (a : Int) : Pure prog G 87 [.lst 2 (l.map cEntry), tI a] (.tup [tI ((lastE l a).getD 0), tB (lastE l a).isSome]) := by
 refine Pure.at mixedOk F87 rfl fun C hP hG hp => goF ?_; simp only [F87, targEnv, Nat.zero_add, Nat.reduceAdd]
 repeat' (first | refine goR rfl ?_ | refine goS rfl ?_ | refine tret1 rfl ?_ | refine tretN rfl ?_ | refine gY rfl rfl ?_ | refine gN rfl rfl ?_ | refine qT rfl rfl ?_ | refine qF rfl rfl ?_ | fail)
 refine loopS (fun m env σ => m ≤ l.length ∧ env = [(0, .lst 2 (l.map cEntry)), (1, tI a), (6, tI ((m : Int) - 1))] ∧ σ = ⟨[], 0⟩ ∧ lastE l a = lastE (l.take m) a) l.length ?_ ⟨by omega, rfl, rfl, by rw [List.take_length]⟩ ?_
 ·(refine w_ren [] rfl (by rw [hp]; decide) rfl ?_ ?_ <;> repeat' (first | exact .nil | exact .f _ rfl | exact .s _ _ _ _ _ _ rfl | exact .p _ _ _ rfl | exact .rows _ _ _ | exact .iter _ _ | exact RenL.nil _ | refine RenL.cons ?_ ?_ | refine .cells _ _ _ ?_ | refine .cons _ _ _ _ rfl ?_ ?_ | refine .cons _ _ _ _ _ rfl rfl ?_ ?_ | refine .rowsE ?_ | refine .sE rfl ?_ | exact .m _ _ rfl | refine .fE rfl ?_ | exact rnT_ok rfl | exact RenO.mB _ | exact RenO.mB [] | fail))
  rw [lM, w64 (by omega)]
 rintro m env σ ⟨hm, rfl, rfl, hla⟩
 cases m with
 | zero =>
  rw [hla, show l.take 0 = [] from rfl, lastE_nil]
  repeat' (first | refine goR rfl ?_ | refine goS rfl ?_ | refine tret1 rfl ?_ | refine tretN rfl ?_ | refine gY rfl rfl ?_ | refine gN rfl rfl ?_ | refine qT rfl rfl ?_ | refine qF rfl rfl ?_ | refine qF rfl (dF (by omega)) ?_ | fail)
  exact .fr rfl
 | succ k =>
  have e1 : ((k + 1 : Nat) : Int) - 1 = (k : Int) := by omega
  rw [e1]
  have hx : l[k]? = some l[k] := List.getElem?_eq_getElem (by omega)
  rw [List.take_add_one, hx, Option.toList_some, lastE_snoc] at hla
  generalize l[k] = e at hx hla
  by_cases ha : e.addr = a
  ·rw [if_pos ha] at hla
   rw [hla]
   repeat' (first | refine goR rfl ?_ | refine goS rfl ?_ | refine tret1 rfl ?_ | refine tretN rfl ?_ | refine gY rfl rfl ?_ | refine gN rfl rfl ?_ | refine qT rfl rfl ?_ | refine qF rfl rfl ?_ | refine qT rfl (dT (by omega)) ?_ | refine lT (tl_ixm rfl rfl rfl hx) ?_ | fail)
   exact .fr rfl
  ·rw [if_neg ha] at hla
   repeat' (first | refine goR rfl ?_ | refine goS rfl ?_ | refine tret1 rfl ?_ | refine tretN rfl ?_ | refine gY rfl rfl ?_ | refine gN rfl rfl ?_ | refine qT rfl rfl ?_ | refine qF rfl rfl ?_ | refine qT rfl (dT (by omega)) ?_ | refine lT (tl_ixm rfl rfl rfl hx) ?_ | refine qF rfl (dF (by omega)) ?_ | fail)
   refine again (m' := k) (Nat.lt_succ_self _) ?_ ⟨by omega, rfl, rfl, hla⟩
   (refine w_ren [] rfl (by rw [hp]; decide) rfl ?_ ?_ <;> repeat' (first | exact .nil | exact .f _ rfl | exact .s _ _ _ _ _ _ rfl | exact .p _ _ _ rfl | exact .rows _ _ _ | exact .iter _ _ | exact RenL.nil _ | refine RenL.cons ?_ ?_ | refine .cells _ _ _ ?_ | refine .cons _ _ _ _ rfl ?_ ?_ | refine .cons _ _ _ _ _ rfl rfl ?_ ?_ | refine .rowsE ?_ | refine .sE rfl ?_ | exact .m _ _ rfl | refine .fE rfl ?_ | exact rnT_ok rfl | exact RenO.mB _ | exact RenO.mB [] | fail))
   rw [w64 (by omega)]
theorem seen_spec (s : State) (k : Nat) (l : List Entry) (hl : s.bufs[k]? = some l) (hb : l.length ≤ 1000000000) (a : Nat) (ha : a < s.mem.length) : Pure prog G 46 [.fp (cState s) 0, tI k, tI a] (tI (seenW s k a)) := by
 have c1 := fun G => last_spec (G := G) l hb a
 have hm : s.mem[a]? = some (rdM s a) := by
  rw [rdM, Int.toNat_natCast, List.getD_eq_getElem?_getD, List.getElem?_eq_getElem ha]; rfl
 rw [seenW, show bufAt s k = l by rw [bufAt, List.getD_eq_getElem?_getD, hl]; rfl]
 refine Pure.at mixedOk F46 rfl fun C hP hG hp => goF ?_; simp only [F46, targEnv, Nat.zero_add, Nat.reduceAdd]
 cases ho : lastE l a with
 | none =>
  rw [ho] at c1
  repeat' (first | refine goR rfl ?_ | refine goS rfl ?_ | refine tret1 rfl ?_ | refine tretN rfl ?_ | refine gY rfl rfl ?_ | refine gN rfl rfl ?_ | refine qT rfl rfl ?_ | refine qF rfl rfl ?_ | refine cA rfl (by rw [hP]; exact c1 _) rfl ?_ | refine lT (tl_ixm rfl rfl rfl hl) ?_ | refine lT (tl_ixm rfl rfl rfl hm) ?_ | fail)
  exact .fr rfl
 | some v =>
  rw [ho] at c1
  repeat' (first | refine goR rfl ?_ | refine goS rfl ?_ | refine tret1 rfl ?_ | refine tretN rfl ?_ | refine gY rfl rfl ?_ | refine gN rfl rfl ?_ | refine qT rfl rfl ?_ | refine qF rfl rfl ?_ | refine cA rfl (by rw [hP]; exact c1 _) rfl ?_ | refine lT (tl_ixm rfl rfl rfl hl) ?_ | refine lT (tl_ixm rfl rfl rfl hm) ?_ | fail)
  exact .fr rfl
theorem flush_own (s : State) (t : Int) (hb : s.bufs.length ≤ 1000000000) (hs : ∀ l ∈ s.bufs, l.length ≤ 1000000000 ∧ ∀ e ∈ l, 0 ≤ e.addr ∧ e.addr < s.mem.length) : TC prog G 44 [.p 0 0, tI t] ⟨rfT s 0, 4⟩ [0] (fun v σ' => v = tB (if 0 ≤ t then flushW s t.toNat else (s, false)).2 ∧ σ' = ⟨rfT (if 0 ≤ t then flushW s t.toNat else (s, false)).1 0, 4⟩) := by
 by_cases ht : 0 ≤ t ∧ t < s.bufs.length
 ·obtain ⟨k, rfl⟩ : ∃ k : Nat, t = k := ⟨t.toNat, by omega⟩
  have hkl : k < s.bufs.length := by omega
  rw [if_pos (by omega), Int.toNat_natCast]
  have hl : s.bufs[k]? = some s.bufs[k] := List.getElem?_eq_getElem hkl
  obtain ⟨q1, q2⟩ := hs _ (List.mem_of_getElem? hl)
  have hbt : bufAt s k = s.bufs[k] := by rw [bufAt, List.getD_eq_getElem?_getD, hl]; rfl
  unfold flushW
  rw [hbt]
  have hlm : (s.bufs.map cBuf)[k]? = some (cBuf s.bufs[k]) := by rw [List.getElem?_map, hl]; rfl
  generalize s.bufs[k] = l at hl q1 q2 hlm
  refine TC.at mixedOk F44 rfl fun C hP hG hp => goF ?_; simp only [F44, targEnv, Nat.zero_add, Nat.reduceAdd]
  cases l with
  | nil =>
   repeat' (first | refine goR rfl ?_ | refine goS rfl ?_ | refine tret1 rfl ?_ | refine tretN rfl ?_ | refine gY rfl rfl ?_ | refine gN rfl rfl ?_ | refine qT rfl rfl ?_ | refine qF rfl rfl ?_ | refine lT (tl_ixo (m := k) rfl rfl rfl (by omega)) ?_ | refine lT (tl_ldE rfl rfl hlm rfl) ?_ | ((first | refine gS rfl (fun h => ?_) (fun h => ?_) | refine ts_cond rfl (fun h => ?_) (fun h => ?_)) <;> (try simp only [bs0, beq_iff_eq] at h) <;> try (exfalso; omega; done)) | fail)
   all_goals exact tretX 4 [0] rfl hp rfl rfl rfl rfl ⟨rfl, rfl⟩
  | cons e l =>
   obtain ⟨q3, q4⟩ := q2 e (List.mem_cons_self ..)
   simp only [List.length_cons] at q1
   obtain ⟨a, ha⟩ : ∃ a : Nat, e.addr = a := ⟨e.addr.toNat, by omega⟩
   have hag : (s.mem.map fun n => [tI n])[a]? = some [tI (rdM s a)] := by
    rw [List.getElem?_map, rdM, Int.toNat_natCast, List.getD_eq_getElem?_getD, List.getElem?_eq_getElem (by omega)]; rfl
   have hlm2 : ((s.bufs.map cBuf).set k (cBuf l))[k]? = some (cBuf l) := List.getElem?_set_self (by rw [lM]; exact hkl)
   repeat' (first | refine goR rfl ?_ | refine goS rfl ?_ | refine tret1 rfl ?_ | refine tretN rfl ?_ | refine gY rfl rfl ?_ | refine gN rfl rfl ?_ | refine qT rfl rfl ?_ | refine qF rfl rfl ?_ | refine lT (tl_ixo (m := k) rfl rfl rfl (by omega)) ?_ | refine lT (tl_ldE rfl rfl hlm rfl) ?_ | refine lT (tl_ixf (m := 0) rfl rfl rfl rfl) ?_ | refine lT (tl_slc (r := l.map cEntry) rfl rfl rfl ⟨by decide, by simp only [Option.getD_some, Option.getD_none, lM, List.length_cons]; omega, by simp only [Option.getD_none]; omega⟩ (by simp only [Option.getD_some, Option.getD_none, lM, List.length_cons, List.map_cons]; show List.take _ (List.map cEntry l) = _; exact List.take_of_length_le (by simp))) ?_ | refine tr_storeE rfl rfl hlm rfl rfl rfl rfl rfl rfl ?_ | refine lT (tl_ixo (m := a) rfl rfl ha (by omega)) ?_ | refine tr_storeE rfl rfl hag rfl rfl rfl rfl rfl rfl ?_ | ((first | refine gS rfl (fun h => ?_) (fun h => ?_) | refine ts_cond rfl (fun h => ?_) (fun h => ?_)) <;> (try simp only [bs0, beq_iff_eq] at h) <;> try (exfalso; omega; done)) | fail)
   refine tretX 4 [0] rfl hp rfl rfl rfl rfl ⟨rfl, ?_⟩
   simp only [rfT, memT, thrT, wrM, ha, Int.toNat_natCast, List.length_set, List.map_set]
   rfl
 ·have hE : (if 0 ≤ t then flushW s t.toNat else (s, false)) = (s, false) := by
   split
   ·refine flushW_nil ?_
    rw [bufAt, List.getD_eq_getElem?_getD, List.getElem?_eq_none (by omega)]; rfl
   ·rfl
  rw [hE]
  refine TC.at mixedOk F44 rfl fun C hP hG hp => goF ?_; simp only [F44, targEnv, Nat.zero_add, Nat.reduceAdd]
  repeat' (first | refine goR rfl ?_ | refine goS rfl ?_ | refine tret1 rfl ?_ | refine tretN rfl ?_ | refine gY rfl rfl ?_ | refine gN rfl rfl ?_ | refine qT rfl rfl ?_ | refine qF rfl rfl ?_ | ((first | refine gS rfl (fun h => ?_) (fun h => ?_) | refine ts_cond rfl (fun h => ?_) (fun h => ?_)) <;> (try simp only [bs0, beq_iff_eq] at h) <;> try (exfalso; omega; done)) | fail)
  all_goals exact tretX 4 [0] rfl hp rfl rfl rfl rfl ⟨rfl, rfl⟩
set_option maxHeartbeats 20000000 in
theorem scT_own (p : Prg) (ho : okP p) (hc : checkC p = 0) (s : State) (hq : stQ p s) (k : Nat) (x : Thr) (hx : s.thr[k]? = some x) (h23 : (nextW p k x).kind ≠ 2 ∧ (nextW p k x).kind ≠ 3) :
  TC prog Tabs 38 [.agg (cPrg p), .p 0 0, tI k] ⟨rfT s 0, 4⟩ [0] (fun v σ' => v = tB (stepS p s k x).2 ∧ σ' = ⟨rfT (stepS p s k x).1 0, 4⟩) := by
 have hxt : (s.thr.map cThr)[k]? = some (cThr x) := by rw [List.getElem?_map, hx]; rfl
 have hkl : k < s.thr.length := (List.getElem?_eq_some_iff.1 hx).1
 have c1 := next_spec2 p ho hc k x
 have c2 := localP_spec2 p ho hc k x
 have c3 := fun v => loaded_spec2 p ho hc k x v
 have c4 := fun v => swap_spec2 p ho hc k x v
 have hadr := next_addr hc (t := k) (x := x)
 have hrd : ∀ (h : (nextW p k x).kind = 2 ∨ (nextW p k x).kind = 3 ∨ (nextW p k x).kind = 4), ∃ a : Nat, (nextW p k x).addr = a ∧ a < s.mem.length ∧ (s.mem.map fun n => [tI n])[a]? = some [tI (rdM s (nextW p k x).addr)] := fun h => by
  obtain ⟨h1, h2⟩ := hadr h
  rw [← hq.len] at h2
  refine ⟨(nextW p k x).addr.toNat, by omega, by omega, ?_⟩
  rw [List.getElem?_map, rdM, List.getD_eq_getElem?_getD, List.getElem?_eq_getElem (by omega)]
  rfl
 have hk7 := nextW_kinds p k x
 have g1 : decide ((k : Int) < 0) = false := dF (by omega)
 have g2 : decide ((k : Int) ≥ (s.thr.length : Int)) = false := dF (by omega)
 unfold stepS
 generalize hnx : nextW p k x = d at *
 obtain ⟨dk, da, dv⟩ := d
 simp only at hadr hrd hk7 h23
 obtain ⟨k2, k3⟩ := h23
 by_cases k0 : dk = 0
 ·rw [if_pos k0]
  subst k0
  refine TC.at mixedOk F38 rfl fun C hP hG hp => goF ?_; simp only [F38, targEnv, Nat.zero_add, Nat.reduceAdd]
  repeat' (first | refine goR rfl ?_ | refine goS rfl ?_ | refine tret1 rfl ?_ | refine tretN rfl ?_ | refine gY rfl rfl ?_ | refine gN rfl rfl ?_ | refine qT rfl rfl ?_ | refine qF rfl rfl ?_ | refine lT (tl_ixo rfl rfl rfl hkl) ?_ | refine lT (tl_ldE rfl rfl hxt rfl) ?_ | refine tr_storeE rfl rfl hxt rfl rfl rfl rfl rfl rfl ?_ | refine cA rfl (by rw [hP, hG]; exact c1) rfl ?_ | ((first | refine gS rfl (fun h => ?_) (fun h => ?_) | refine ts_cond rfl (fun h => ?_) (fun h => ?_)) <;> (try simp only [bs0, beq_iff_eq] at h) <;> try (exfalso; omega; done)) | fail)
  first | exact tretX 4 [0] rfl hp rfl rfl rfl rfl ⟨rfl, rfl⟩ | (refine tretX 4 [0] rfl hp rfl rfl rfl rfl ⟨rfl, ?_⟩; simp only [rfT, memT, thrT, List.length_set, List.map_set] <;> rfl)
 rw [if_neg k0, if_neg k2, if_neg k3]
 by_cases k4 : dk = 4
 ·rw [if_pos k4]
  obtain ⟨a, ha, hal, hag⟩ := hrd (.inr (.inr k4))
  subst ha k4
  simp only
  have c4 := c4 (rdM s a)
  generalize swapW p k x (rdM s a) = w at *
  rw [show wrM s a w.2.1 = s.mem.set a w.2.1 by rw [wrM, Int.toNat_natCast]]
  generalize rdM s a = u at *
  obtain ⟨y2, v2, b2⟩ := w
  cases b2
  all_goals
   simp only [Bool.false_eq_true, if_false, if_true]
   refine TC.at mixedOk F38 rfl fun C hP hG hp => goF ?_; simp only [F38, targEnv, Nat.zero_add, Nat.reduceAdd]
   repeat' (first | refine goR rfl ?_ | refine goS rfl ?_ | refine tret1 rfl ?_ | refine tretN rfl ?_ | refine gY rfl rfl ?_ | refine gN rfl rfl ?_ | refine qT rfl rfl ?_ | refine qF rfl rfl ?_ | refine lT (tl_ixo rfl rfl rfl hkl) ?_ | refine lT (tl_ldE rfl rfl hxt rfl) ?_ | refine tr_storeE rfl rfl hxt rfl rfl rfl rfl rfl rfl ?_ | refine cA rfl (by rw [hP, hG]; exact c1) rfl ?_ | refine lT (tl_ixo (m := a) rfl rfl rfl hal) ?_ | refine lT (tl_ldE rfl rfl hag rfl) ?_ | refine tr_storeE rfl rfl hag rfl rfl rfl rfl rfl rfl ?_ | refine cA rfl (by rw [hP, hG]; exact c4) rfl ?_ | ((first | refine gS rfl (fun h => ?_) (fun h => ?_) | refine ts_cond rfl (fun h => ?_) (fun h => ?_)) <;> (try simp only [bs0, beq_iff_eq] at h) <;> try (exfalso; omega; done)) | fail)
   first | exact tretX 4 [0] rfl hp rfl rfl rfl rfl ⟨rfl, rfl⟩ | (refine tretX 4 [0] rfl hp rfl rfl rfl rfl ⟨rfl, ?_⟩; simp only [rfT, memT, thrT, List.length_set, List.map_set] <;> rfl)
 rw [if_neg k4]
 generalize localW p k x = y at *
 have hk3 : dk = 1 ∨ dk = 5 ∨ dk = 6 := by omega
 rcases hk3 with rfl | rfl | rfl
 all_goals
  refine TC.at mixedOk F38 rfl fun C hP hG hp => goF ?_; simp only [F38, targEnv, Nat.zero_add, Nat.reduceAdd]
  repeat' (first | refine goR rfl ?_ | refine goS rfl ?_ | refine tret1 rfl ?_ | refine tretN rfl ?_ | refine gY rfl rfl ?_ | refine gN rfl rfl ?_ | refine qT rfl rfl ?_ | refine qF rfl rfl ?_ | refine lT (tl_ixo rfl rfl rfl hkl) ?_ | refine lT (tl_ldE rfl rfl hxt rfl) ?_ | refine tr_storeE rfl rfl hxt rfl rfl rfl rfl rfl rfl ?_ | refine cA rfl (by rw [hP, hG]; exact c1) rfl ?_ | refine cA rfl (by rw [hP, hG]; exact c2) rfl ?_ | ((first | refine gS rfl (fun h => ?_) (fun h => ?_) | refine ts_cond rfl (fun h => ?_) (fun h => ?_)) <;> (try simp only [bs0, beq_iff_eq] at h) <;> try (exfalso; omega; done)) | fail)
  first | exact tretX 4 [0] rfl hp rfl rfl rfl rfl ⟨rfl, rfl⟩ | (refine tretX 4 [0] rfl hp rfl rfl rfl rfl ⟨rfl, ?_⟩; simp only [rfT, memT, thrT, List.length_set, List.map_set] <;> rfl)
theorem stepB_s {p : Prg} {s : State} {k : Nat} {x : Thr} (h2 : (nextW p k x).kind ≠ 2) (h3 : (nextW p k x).kind ≠ 3) (hw : ¬ (((nextW p k x).kind = 4 ∨ (nextW p k x).kind = 5) ∧ bufAt s k ≠ [])) : stepB p s k x = stepS p s k x := by
 unfold stepB
 rw [if_neg hw, if_neg h2, if_neg h3]
set_option maxHeartbeats 20000000 in
theorem tsoR_own (p : Prg) (ho : okP p) (hc : checkC p = 0) (s : State) (hq : stQ p s) (hbl : s.bufs.length = s.thr.length) (hl : s.thr.length ≤ 1000) (hs : ∀ l ∈ s.bufs, l.length ≤ 1000000 ∧ ∀ e ∈ l, 0 ≤ e.addr ∧ e.addr < s.mem.length) (t : Int) (f : Bool) :
  TC prog Tabs 16 [.agg (cPrg p), .p 0 0, .agg [tI t, tB f]] ⟨rfT s 0, 4⟩ [0] (fun v σ' => v = tB (tsoW p s t f).2 ∧ σ' = ⟨rfT (tsoW p s t f).1 0, 4⟩) := by
 cases f with
 | true =>
  have c := flush_own (G := Tabs) s t (by omega) (fun l hl' => ⟨by have := (hs l hl').1; omega, (hs l hl').2⟩)
  have e : tsoW p s t true = (if 0 ≤ t then flushW s t.toNat else (s, false)) := by
   by_cases ht : 0 ≤ t ∧ t < (s.thr.length : Int)
   ·obtain ⟨k, rfl⟩ : ∃ k : Nat, t = k := ⟨t.toNat, by omega⟩
    rw [tsoW_f (by omega), if_pos ht.1, Int.toNat_natCast]
   ·rw [tsoW_out ht]
    split
    ·rw [flushW_nil]
     rw [bufAt, List.getD_eq_getElem?_getD, List.getElem?_eq_none (by omega)]; rfl
    ·rfl
  rw [e]
  refine TC.at mixedOk F16 rfl fun C hP hG hp => goF ?_; simp only [F16, targEnv, Nat.zero_add, Nat.reduceAdd]
  repeat' (first | refine goR rfl ?_ | refine goS rfl ?_ | refine tret1 rfl ?_ | refine tretN rfl ?_ | refine gY rfl rfl ?_ | refine gN rfl rfl ?_ | refine qT rfl rfl ?_ | refine qF rfl rfl ?_ | refine tr_mcallX hP hG (c) rfl rfl rfl rfl rfl rfl rfl rfl rfl rfl rfl rfl ?_ | fail)
  exact tretX 4 [0] rfl hp rfl rfl rfl rfl ⟨rfl, rfl⟩
 | false =>
 by_cases ht : 0 ≤ t ∧ t < (s.thr.length : Int)
 ·obtain ⟨k, rfl⟩ : ∃ k : Nat, t = k := ⟨t.toNat, by omega⟩
  have hkl : k < s.thr.length := by omega
  have hx : s.thr[k]? = some s.thr[k] := List.getElem?_eq_getElem hkl
  generalize s.thr[k] = x at hx
  rw [tsoW_s hx]
  have hlb : s.bufs[k]? = some s.bufs[k] := List.getElem?_eq_getElem (by omega)
  obtain ⟨q1, q2⟩ := hs _ (List.mem_of_getElem? hlb)
  have hbt : bufAt s k = s.bufs[k] := by rw [bufAt, List.getD_eq_getElem?_getD, hlb]; rfl
  have hlm : (s.bufs.map cBuf)[k]? = some (cBuf s.bufs[k]) := by rw [List.getElem?_map, hlb]; rfl
  have hkb : k < s.bufs.length := by omega
  generalize s.bufs[k] = l at hlb q1 q2 hlm hbt
  have hlc : (l.map cEntry).length = l.length := lM ..
  have hxt : (s.thr.map cThr)[k]? = some (cThr x) := by rw [List.getElem?_map, hx]; rfl
  have c1 := next_spec2 p ho hc k x
  have c2 := localP_spec2 p ho hc k x
  have c3 := fun v => loaded_spec2 p ho hc k x v
  have c4 := fun v => swap_spec2 p ho hc k x v
  have hadr := next_addr hc (t := k) (x := x)
  have hrd : ∀ (h : (nextW p k x).kind = 2 ∨ (nextW p k x).kind = 3 ∨ (nextW p k x).kind = 4), ∃ a : Nat, (nextW p k x).addr = a ∧ a < s.mem.length ∧ (s.mem.map fun n => [tI n])[a]? = some [tI (rdM s (nextW p k x).addr)] := fun h => by
   obtain ⟨h1, h2⟩ := hadr h
   rw [← hq.len] at h2
   refine ⟨(nextW p k x).addr.toNat, by omega, by omega, ?_⟩
   rw [List.getElem?_map, rdM, List.getD_eq_getElem?_getD, List.getElem?_eq_getElem (by omega)]
   rfl
  have hk7 := nextW_kinds p k x
  have g1 : decide ((k : Int) < 0) = false := dF (by omega)
  have g2 : decide ((k : Int) ≥ (s.thr.length : Int)) = false := dF (by omega)
  by_cases kw : ((nextW p k x).kind = 4 ∨ (nextW p k x).kind = 5) ∧ l ≠ []
  ·rw [stepB_w kw.1 (by rw [hbt]; exact kw.2)]
   obtain ⟨kw, kn⟩ := kw
   have kn : decide (((l.map cEntry).length : Int) > 0) = true := dT (by have := List.length_pos_iff.2 kn; omega)
   generalize nextW p k x = d at *
   obtain ⟨dk, da, dv⟩ := d
   simp only at kw
   clear hadr hrd
   rcases kw with rfl | rfl
   all_goals
    refine TC.at mixedOk F16 rfl fun C hP hG hp => goF ?_; simp only [F16, targEnv, Nat.zero_add, Nat.reduceAdd]
    repeat' (first | refine goR rfl ?_ | refine goS rfl ?_ | refine tret1 rfl ?_ | refine tretN rfl ?_ | refine gY rfl rfl ?_ | refine gN rfl rfl ?_ | refine qT rfl rfl ?_ | refine qF rfl rfl ?_ | refine lT (tl_ixo rfl rfl rfl hkl) ?_ | refine lT (tl_ldE rfl rfl hxt rfl) ?_ | refine tr_storeE rfl rfl hxt rfl rfl rfl rfl rfl rfl ?_ | refine cA rfl (by rw [hP, hG]; exact c1) rfl ?_ | refine lT (tl_ixo (m := k) rfl rfl rfl hkb) ?_ | refine lT (tl_ldE rfl rfl hlm rfl) ?_ | refine qT rfl kn ?_ | ((first | refine gS rfl (fun h => ?_) (fun h => ?_) | refine ts_cond rfl (fun h => ?_) (fun h => ?_)) <;> (try simp only [bs0, beq_iff_eq] at h) <;> try (exfalso; omega; done)) | fail)
    first | exact tretX 4 [0] rfl hp rfl rfl rfl rfl ⟨rfl, rfl⟩ | (refine tretX 4 [0] rfl hp rfl rfl rfl rfl ⟨rfl, ?_⟩; simp only [rfT, memT, thrT, List.length_set, List.map_set] <;> rfl)
  by_cases k2 : (nextW p k x).kind = 2
  ·obtain ⟨a, ha, hal, hag⟩ := hrd (.inl k2)
   rw [stepB_2 k2, ha]
   have d1 := fun G => seen_spec (G := G) s k l hlb (by omega) a hal
   have c3 := c3 (seenW s k a)
   generalize seenW s k a = v at *
   generalize loadedW p k x v = y at *
   generalize nextW p k x = d at *
   obtain ⟨dk, da, dv⟩ := d
   simp only at ha k2
   subst ha k2
   clear hadr hrd hk7
   refine TC.at mixedOk F16 rfl fun C hP hG hp => goF ?_; simp only [F16, targEnv, Nat.zero_add, Nat.reduceAdd]
   repeat' (first | refine goR rfl ?_ | refine goS rfl ?_ | refine tret1 rfl ?_ | refine tretN rfl ?_ | refine gY rfl rfl ?_ | refine gN rfl rfl ?_ | refine qT rfl rfl ?_ | refine qF rfl rfl ?_ | refine lT (tl_ixo rfl rfl rfl hkl) ?_ | refine lT (tl_ldE rfl rfl hxt rfl) ?_ | refine tr_storeE rfl rfl hxt rfl rfl rfl rfl rfl rfl ?_ | refine cA rfl (by rw [hP, hG]; exact c1) rfl ?_ | refine tr_callV hP hG (d1 _) rfl (by (repeat' first | exact FzL.nil | refine FzL.cons ?_ ?_ | exact Fz.fr rfl | exact Fz.nil _ | exact Fz.s _ _ _ _ _ _ rfl (lM ..).symm | exact Fz.s _ _ _ _ _ _ rfl rfl | refine Fz.pL rfl ?_ | refine Fz.aggL ?_); first | done | fail) rfl ?_ | refine cA rfl (by rw [hP, hG]; exact c3) rfl ?_ | ((first | refine gS rfl (fun h => ?_) (fun h => ?_) | refine ts_cond rfl (fun h => ?_) (fun h => ?_)) <;> (try simp only [bs0, beq_iff_eq] at h) <;> try (exfalso; omega; done)) | fail)
   first | exact tretX 4 [0] rfl hp rfl rfl rfl rfl ⟨rfl, rfl⟩ | (refine tretX 4 [0] rfl hp rfl rfl rfl rfl ⟨rfl, ?_⟩; simp only [rfT, memT, thrT, List.length_set, List.map_set] <;> rfl)
  by_cases k3 : (nextW p k x).kind = 3
  ·obtain ⟨a, ha, hal, hag⟩ := hrd (.inr (.inl k3))
   rw [stepB_3 k3, hbt]
   generalize localW p k x = y at *
   generalize nextW p k x = d at *
   obtain ⟨dk, da, dv⟩ := d
   simp only at ha k3 ⊢
   subst ha k3
   clear hadr hrd hk7 kw
   refine TC.at mixedOk F16 rfl fun C hP hG hp => goF ?_; simp only [F16, targEnv, Nat.zero_add, Nat.reduceAdd]
   repeat' (first | refine goR rfl ?_ | refine goS rfl ?_ | refine tret1 rfl ?_ | refine tretN rfl ?_ | refine gY rfl rfl ?_ | refine gN rfl rfl ?_ | refine qT rfl rfl ?_ | refine qF rfl rfl ?_ | refine lT (tl_ixo rfl rfl rfl hkl) ?_ | refine lT (tl_ldE rfl rfl hxt rfl) ?_ | refine tr_storeE rfl rfl hxt rfl rfl rfl rfl rfl rfl ?_ | refine cA rfl (by rw [hP, hG]; exact c1) rfl ?_ | refine cA rfl (by rw [hP, hG]; exact c2) rfl ?_ | refine tr_append0 rfl (.inl rfl) (by omega) rfl ?_ | refine tr_appF rfl rfl rfl (.inr (.inr ⟨_, _, _, _, rfl, rfl, rfl⟩)) (by simp only [List.length_cons, List.length_nil]; omega) rfl ?_ | refine lT (tl_ixo (m := k) rfl rfl rfl hkb) ?_ | refine lT (tl_ldE rfl rfl hlm rfl) ?_ | refine tr_storeE rfl rfl hlm rfl rfl rfl rfl rfl rfl ?_ | ((first | refine gS rfl (fun h => ?_) (fun h => ?_) | refine ts_cond rfl (fun h => ?_) (fun h => ?_)) <;> (try simp only [bs0, beq_iff_eq] at h) <;> try (exfalso; omega; done)) | fail)
   refine tretX 4 [0] rfl hp rfl rfl rfl rfl ⟨rfl, ?_⟩
   simp only [rfT, memT, thrT, List.length_set, List.map_set, cBuf, List.map_append] <;> rfl
  rw [stepB_s k2 k3 (by rw [hbt]; exact kw)]
  have cs := scT_own p ho hc s hq k x hx ⟨k2, k3⟩
  generalize stepS p s k x = w at *
  have kn : (nextW p k x).kind = 4 ∨ (nextW p k x).kind = 5 → decide (((l.map cEntry).length : Int) > 0) = false := fun h => dF (by
   have : l = [] := Classical.byContradiction fun h' => kw ⟨h, h'⟩
   subst this; simp)
  generalize nextW p k x = d at *
  obtain ⟨dk, da, dv⟩ := d
  simp only at kn k2 k3 hk7
  clear hadr hrd
  have hk5 : dk = 0 ∨ dk = 1 ∨ dk = 4 ∨ dk = 5 ∨ dk = 6 := by omega
  rcases hk5 with rfl | rfl | rfl | rfl | rfl
  all_goals
   refine TC.at mixedOk F16 rfl fun C hP hG hp => goF ?_; simp only [F16, targEnv, Nat.zero_add, Nat.reduceAdd]
   repeat' (first | refine goR rfl ?_ | refine goS rfl ?_ | refine tret1 rfl ?_ | refine tretN rfl ?_ | refine gY rfl rfl ?_ | refine gN rfl rfl ?_ | refine qT rfl rfl ?_ | refine qF rfl rfl ?_ | refine lT (tl_ixo rfl rfl rfl hkl) ?_ | refine lT (tl_ldE rfl rfl hxt rfl) ?_ | refine tr_storeE rfl rfl hxt rfl rfl rfl rfl rfl rfl ?_ | refine cA rfl (by rw [hP, hG]; exact c1) rfl ?_ | refine lT (tl_ixo (m := k) rfl rfl rfl hkb) ?_ | refine lT (tl_ldE rfl rfl hlm rfl) ?_ | refine qF rfl (kn (by decide)) ?_ | refine tr_mcallX hP hG (cs) rfl rfl rfl rfl rfl rfl rfl rfl rfl rfl rfl rfl ?_ | ((first | refine gS rfl (fun h => ?_) (fun h => ?_) | refine ts_cond rfl (fun h => ?_) (fun h => ?_)) <;> (try simp only [bs0, beq_iff_eq] at h) <;> try (exfalso; omega; done)) | fail)
   exact tretX 4 [0] rfl hp rfl rfl rfl rfl ⟨rfl, rfl⟩
 ·rw [tsoW_out ht]
  refine TC.at mixedOk F16 rfl fun C hP hG hp => goF ?_; simp only [F16, targEnv, Nat.zero_add, Nat.reduceAdd]
  repeat' (first | refine goR rfl ?_ | refine goS rfl ?_ | refine tret1 rfl ?_ | refine tretN rfl ?_ | refine gY rfl rfl ?_ | refine gN rfl rfl ?_ | refine qT rfl rfl ?_ | refine qF rfl rfl ?_ | ((first | refine gS rfl (fun h => ?_) (fun h => ?_) | refine ts_cond rfl (fun h => ?_) (fun h => ?_)) <;> (try simp only [bs0, beq_iff_eq] at h) <;> try (exfalso; omega; done)) | fail)
  all_goals exact tretX 4 [0] rfl hp rfl rfl rfl rfl ⟨rfl, rfl⟩
end
end Go.Proofs.YtnphhelbianjpaaGreatDoor
namespace Go.Proofs.YtnphhelbianjpaaGreatDoor
set_option maxRecDepth 20000
open Go Go.Proofs.YtnphhelbianjpaaGreatDoor.V Go.Proofs
section
attribute [local irreducible] TwS TwR thenT inBlockT retT nextW localW loadedW swapW Rg.push Rg.pop tsoW doR
variable {G : World → Prop}
theorem beginT_own (p : Prg) (c1 : p.syms.length ≤ 64) (c2 : p.threads.length ≤ 64) (c3 : ∀ s ∈ p.syms, 1 ≤ s.size ∧ s.size ≤ 64 ∧ (s.init.length : Int) ≤ s.size) : TC prog G 15 [.agg (cPrg p), tI (p.threads.map cTh).length] ⟨[], 0⟩ [] (fun r σ' => r = .agg [.s 0 1 0 (startT p).mem.length true, .s 1 16 0 (startT p).thr.length true, .s 2 1 0 (startT p).bufs.length true, tI 0] ∧
  σ' = ⟨[(0, memT (startT p)), (1, thrT (startT p)), (2, .rows 1 ((startT p).bufs.map cBuf) 103)], 3⟩) := by
 have e2 : (p.threads.map cTh).length = p.threads.length := lM ..
 have c4 := refStart_own (G := G) p c1 c3
 have r1 : (((p.threads.map cTh).length : Nat) : Int).toNat = (startT p).thr.length := by
  rw [Int.toNat_natCast, e2]; exact (List.length_replicate ..).symm
 have r2 : (((p.threads.map cTh).length : Nat) : Int).toNat = (startT p).bufs.length := by
  rw [Int.toNat_natCast, e2]; exact (List.length_replicate ..).symm
 have r3 : List.replicate (startT p).thr.length (cThr zThr) = (startT p).thr.map cThr := by
  show List.replicate (List.replicate _ _).length _ = (List.replicate _ _).map _
  rw [List.length_replicate, List.map_replicate]
 have r4 : List.replicate (startT p).bufs.length (cBuf []) = (startT p).bufs.map cBuf := by
  show List.replicate (List.replicate _ _).length _ = (List.replicate _ _).map _
  rw [List.length_replicate, List.map_replicate]
 refine TC.at mixedOk F15 rfl fun C hP hG hp => goF ?_; simp only [F15, targEnv, Nat.zero_add, Nat.reduceAdd]
 repeat' (first | refine goR rfl ?_ | refine goS rfl ?_ | refine tret1 rfl ?_ | refine tretN rfl ?_ | refine gY rfl rfl ?_ | refine gN rfl rfl ?_ | refine qT rfl rfl ?_ | refine qF rfl rfl ?_ | refine tr_mcallX hP hG (c4) rfl rfl rfl rfl rfl rfl rfl rfl rfl rfl rfl rfl ?_ | (refine tr_makeR (ys := [.lst 2 []]) rfl rfl (.nil1 2) rfl (by omega) ?_; rw [r2]) | (refine tr_make rfl rfl rfl rfl (by omega) ?_; rw [r1]) | fail)
 refine tretX 3 [] rfl hp rfl rfl rfl rfl ⟨rfl, ?_⟩
 rw [← r4]
 show _ = (⟨[_, (1, .rows 16 ((startT p).thr.map cThr) 58), _], 3⟩ : TS)
 rw [← r3]
 rfl
end
end Go.Proofs.YtnphhelbianjpaaGreatDoor
namespace Go.Proofs.YtnphhelbianjpaaGreatDoor
set_option maxRecDepth 20000
open Go Go.Proofs.YtnphhelbianjpaaGreatDoor.V Go.Proofs
section
attribute [local irreducible] TwS TwR thenT inBlockT retT nextW localW loadedW swapW Rg.push Rg.pop tsoW doR
variable {G : World → Prop}
end
end Go.Proofs.YtnphhelbianjpaaGreatDoor
