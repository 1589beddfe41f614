/-
  Walks of functions of the program, and what the laws need of them.
-/
import Derived.Test.YtfimjmkhmfnaeaaGreatDoorRPH
set_option linter.all false
set_option linter.unusedSimpArgs false
set_option linter.unusedVariables false
set_option linter.unnecessarySimpa false
namespace Go.Proofs.YtfimjmkhmfnaeaaGreatDoor
set_option maxRecDepth 20000
open Go Go.Proofs.YtfimjmkhmfnaeaaGreatDoor.V Go.Proofs
/-- The reference's state, in a variable: its cells, memory, threads. -/
def rfM (s : State) (B : TV) (k : Nat) : List (Nat × TObj) := [(k, .cells [.s (k + 1) 1 0 s.mem.length true, .s (k + 2) 16 0 s.thr.length true, B, tI s.lock] ty_api_State), (k + 1, memT s), (k + 2, thrT s)]
section
attribute [local irreducible] TwS TwR thenT inBlockT retT nextW localW loadedW swapW
variable {G : World → Prop}
theorem sc_own (p : Prg) (ho : okP p) (hc : checkC p = 0) (s : State) (hq : stQ p s) (hl : s.thr.length ≤ 1000000000) (t : Int) : TC prog Tabs n_ref2_Sc [.agg (cPrg p), .p 0 0, tI t] ⟨rfM s (.lst 1 []) 0, 3⟩ [0, 1, 2] (fun r σ' => r = tB (scW p s t).2 ∧ σ' = ⟨rfM (scW p s t).1 (.lst 1 []) 0, 3⟩) := by
  refine TC.of mixedOk (fn := f_ref2_Sc) (by kernel_rfl) (by kernel_rfl) ok_ref2_Sc rfl fun C hP hG hp => goF ?_
  simp only [fs_ref2_Sc, targEnv, Nat.zero_add, Nat.reduceAdd]
  by_cases ht : 0 ≤ t ∧ t < (s.thr.length : Int)
  · obtain ⟨k, rfl⟩ : ∃ k : Nat, t = k := ⟨t.toNat, by omega⟩
    have hkl : k < s.thr.length := by omega
    have hx : s.thr[k]? = some s.thr[k] := List.getElem?_eq_getElem hkl
    generalize s.thr[k] = x at hx
    have hxq := hq.thr x (List.mem_of_getElem? hx)
    have hxt : (s.thr.map cThr)[k]? = some (cThr x) := by rw [List.getElem?_map, hx]; rfl
    have c1 := next_spec2 p ho hc k x
    have c2 := localP_spec2 p ho hc k x
    have c3 := fun v => loaded_spec2 p ho hc k x v
    have c4 := fun v => swap_spec2 p ho hc k x v
    have hadr := next_addr hc (t := k) (x := x)
    rw [show scW p s (k : Int) = stepS p s k x by rw [scW, if_pos (by omega)]; simp only [Int.toNat_natCast, hx]]
    unfold stepS
    generalize nextW p k x = d at c1 hadr
    generalize localW p k x = y at c2
    have hrd : ∀ (h : d.kind = 2 ∨ d.kind = 3 ∨ d.kind = 4), ∃ a : Nat, d.addr = a ∧ a < s.mem.length ∧ (s.mem.map fun n => [tI n])[a]? = some [tI (rdM s d.addr)] := fun h => by
      obtain ⟨h1, h2⟩ := hadr h
      rw [← hq.len] at h2
      refine ⟨d.addr.toNat, by omega, by omega, ?_⟩
      rw [List.getElem?_map, rdM, List.getD_eq_getElem?_getD, List.getElem?_eq_getElem (by omega)]
      rfl
    by_cases k0 : d.kind = 0
    · rw [if_pos k0]
      repeat' (first | refine goR rfl ?_ | refine goS rfl ?_ | refine tret1 rfl ?_ | refine tretN rfl ?_ | refine tr_guard_y rfl rfl ?_ | refine tr_guard_n rfl rfl ?_ | refine ts_cond_t rfl rfl ?_ | refine ts_cond_f rfl rfl ?_ | refine tr_callA rfl (by rw [hP, hG]; exact c1) rfl ?_ | refine tr_light (tl_ixo (m := k) rfl rfl rfl (by omega)) ?_ | refine tr_light (tl_ldE rfl rfl hxt rfl) ?_ | ((first | refine tg_split rfl (fun h => ?_) (fun h => ?_) | refine ts_cond rfl (fun h => ?_) (fun h => ?_)) <;> (try simp only [decide_eq_true_eq, decide_eq_false_iff_not, Bool.not_eq_true', Bool.not_eq_false', Bool.not_true, Bool.not_false, Bool.not_not, beq_iff_eq, Bool.not_eq_true, Bool.not_eq_false] at h) <;> try (exfalso; omega; done)) | fail)
      refine twret rfl ?_ ⟨rfl, rfl⟩
      (refine w_ren [(0, 0), (1, 1), (2, 2)] rfl (by rw [hp]; decide) rfl ?_ ?_ <;> repeat' (first | exact .nil | exact .f _ rfl | exact .s _ _ _ _ _ _ rfl | exact .p _ _ _ rfl | exact .rows _ _ _ | exact .iter _ _ | exact RenL.nil _ | refine RenL.cons ?_ ?_ | refine .cells _ _ _ ?_ | refine .cons _ _ _ _ rfl ?_ ?_ | refine .cons _ _ _ _ _ rfl rfl ?_ ?_ | refine .rowsE ?_ | refine .sE rfl ?_ | exact .m _ _ rfl | refine .fE rfl ?_ | exact rnT_ok rfl | exact RenO.mapB _ | exact RenO.mapB [] | fail))
    rw [if_neg k0]
    by_cases k2 : d.kind = 2
    · rw [if_pos k2]
      obtain ⟨a, ha, hal, hag⟩ := hrd (.inl k2)
      have c3 := c3 (rdM s d.addr)
      repeat' (first | refine goR rfl ?_ | refine goS rfl ?_ | refine tret1 rfl ?_ | refine tretN rfl ?_ | refine tr_guard_y rfl rfl ?_ | refine tr_guard_n rfl rfl ?_ | refine ts_cond_t rfl rfl ?_ | refine ts_cond_f rfl rfl ?_ | refine tr_callA rfl (by rw [hP, hG]; exact c1) rfl ?_ | refine tr_callA rfl (by rw [hP, hG]; exact c3) rfl ?_ | refine tr_light (tl_ixo (m := k) rfl rfl rfl (by omega)) ?_ | refine tr_light (tl_ixo (m := a) rfl rfl ha (by omega)) ?_ | refine tr_light (tl_ldE rfl rfl hxt rfl) ?_ | refine tr_light (tl_ldE rfl rfl hag rfl) ?_ | refine tr_storeE rfl rfl hxt rfl rfl rfl rfl rfl rfl ?_ | ((first | refine tg_split rfl (fun h => ?_) (fun h => ?_) | refine ts_cond rfl (fun h => ?_) (fun h => ?_)) <;> (try simp only [decide_eq_true_eq, decide_eq_false_iff_not, Bool.not_eq_true', Bool.not_eq_false', Bool.not_true, Bool.not_false, Bool.not_not, beq_iff_eq, Bool.not_eq_true, Bool.not_eq_false] at h) <;> try (exfalso; omega; done)) | fail)
      refine twret rfl ?_ ⟨rfl, rfl⟩
      (refine w_ren [(0, 0), (1, 1), (2, 2)] rfl (by rw [hp]; decide) rfl ?_ ?_ <;> repeat' (first | exact .nil | exact .f _ rfl | exact .s _ _ _ _ _ _ rfl | exact .p _ _ _ rfl | exact .rows _ _ _ | exact .iter _ _ | exact RenL.nil _ | refine RenL.cons ?_ ?_ | refine .cells _ _ _ ?_ | refine .cons _ _ _ _ rfl ?_ ?_ | refine .cons _ _ _ _ _ rfl rfl ?_ ?_ | refine .rowsE ?_ | refine .sE rfl ?_ | exact .m _ _ rfl | refine .fE rfl ?_ | exact rnT_ok rfl | exact RenO.mapB _ | exact RenO.mapB [] | fail))
      all_goals first | rfl | exact (List.length_set ..).symm | exact List.length_set .. | exact List.map_set.symm | exact List.map_set | (rw [List.map_set]; done) | skip
    rw [if_neg k2]
    by_cases k3 : d.kind = 3
    · rw [if_pos k3]
      obtain ⟨a, ha, hal, hag⟩ := hrd (.inr (.inl k3))
      rw [show wrM s d.addr d.val = s.mem.set a d.val by rw [wrM, ha, Int.toNat_natCast]]
      repeat' (first | refine goR rfl ?_ | refine goS rfl ?_ | refine tret1 rfl ?_ | refine tretN rfl ?_ | refine tr_guard_y rfl rfl ?_ | refine tr_guard_n rfl rfl ?_ | refine ts_cond_t rfl rfl ?_ | refine ts_cond_f rfl rfl ?_ | refine tr_callA rfl (by rw [hP, hG]; exact c1) rfl ?_ | refine tr_light (tl_ixo (m := k) rfl rfl rfl (by omega)) ?_ | refine tr_light (tl_ldE rfl rfl hxt rfl) ?_ | refine tr_storeE rfl rfl hxt rfl rfl rfl rfl rfl rfl ?_ | refine tr_callA rfl (by rw [hP, hG]; exact c2) rfl ?_ | refine tr_light (tl_ixo (m := a) rfl rfl ha (by omega)) ?_ | refine tr_light (tl_ldE rfl rfl hag rfl) ?_ | refine tr_storeE rfl rfl hag rfl rfl rfl rfl rfl rfl ?_ | ((first | refine tg_split rfl (fun h => ?_) (fun h => ?_) | refine ts_cond rfl (fun h => ?_) (fun h => ?_)) <;> (try simp only [decide_eq_true_eq, decide_eq_false_iff_not, Bool.not_eq_true', Bool.not_eq_false', Bool.not_true, Bool.not_false, Bool.not_not, beq_iff_eq, Bool.not_eq_true, Bool.not_eq_false] at h) <;> try (exfalso; omega; done)) | fail)
      refine twret rfl ?_ ⟨rfl, rfl⟩
      (refine w_ren [(0, 0), (1, 1), (2, 2)] rfl (by rw [hp]; decide) rfl ?_ ?_ <;> repeat' (first | exact .nil | exact .f _ rfl | exact .s _ _ _ _ _ _ rfl | exact .p _ _ _ rfl | exact .rows _ _ _ | exact .iter _ _ | exact RenL.nil _ | refine RenL.cons ?_ ?_ | refine .cells _ _ _ ?_ | refine .cons _ _ _ _ rfl ?_ ?_ | refine .cons _ _ _ _ _ rfl rfl ?_ ?_ | refine .rowsE ?_ | refine .sE rfl ?_ | exact .m _ _ rfl | refine .fE rfl ?_ | exact rnT_ok rfl | exact RenO.mapB _ | exact RenO.mapB [] | fail))
      all_goals first | rfl | exact (List.length_set ..).symm | exact List.length_set .. | exact List.map_set.symm | exact List.map_set | (rw [List.map_set]; done) | skip
    rw [if_neg k3]
    by_cases k4 : d.kind = 4
    · rw [if_pos k4]
      obtain ⟨a, ha, hal, hag⟩ := hrd (.inr (.inr k4))
      have c4 := c4 (rdM s d.addr)
      generalize swapW p k x (rdM s d.addr) = w at c4
      obtain ⟨y2, v2, b2⟩ := w
      cases b2
      · simp only [Bool.false_eq_true, if_false]
        repeat' (first | refine goR rfl ?_ | refine goS rfl ?_ | refine tret1 rfl ?_ | refine tretN rfl ?_ | refine tr_guard_y rfl rfl ?_ | refine tr_guard_n rfl rfl ?_ | refine ts_cond_t rfl rfl ?_ | refine ts_cond_f rfl rfl ?_ | refine tr_callA rfl (by rw [hP, hG]; exact c1) rfl ?_ | refine tr_light (tl_ixo (m := k) rfl rfl rfl (by omega)) ?_ | refine tr_light (tl_ldE rfl rfl hxt rfl) ?_ | refine tr_storeE rfl rfl hxt rfl rfl rfl rfl rfl rfl ?_ | refine tr_callA rfl (by rw [hP, hG]; exact c4) rfl ?_ | refine tr_light (tl_ixo (m := a) rfl rfl ha (by omega)) ?_ | refine tr_light (tl_ldE rfl rfl hag rfl) ?_ | refine tr_storeE rfl rfl hag rfl rfl rfl rfl rfl rfl ?_ | ((first | refine tg_split rfl (fun h => ?_) (fun h => ?_) | refine ts_cond rfl (fun h => ?_) (fun h => ?_)) <;> (try simp only [decide_eq_true_eq, decide_eq_false_iff_not, Bool.not_eq_true', Bool.not_eq_false', Bool.not_true, Bool.not_false, Bool.not_not, beq_iff_eq, Bool.not_eq_true, Bool.not_eq_false] at h) <;> try (exfalso; omega; done)) | fail)
        refine twret rfl ?_ ⟨rfl, rfl⟩
        (refine w_ren [(0, 0), (1, 1), (2, 2)] rfl (by rw [hp]; decide) rfl ?_ ?_ <;> repeat' (first | exact .nil | exact .f _ rfl | exact .s _ _ _ _ _ _ rfl | exact .p _ _ _ rfl | exact .rows _ _ _ | exact .iter _ _ | exact RenL.nil _ | refine RenL.cons ?_ ?_ | refine .cells _ _ _ ?_ | refine .cons _ _ _ _ rfl ?_ ?_ | refine .cons _ _ _ _ _ rfl rfl ?_ ?_ | refine .rowsE ?_ | refine .sE rfl ?_ | exact .m _ _ rfl | refine .fE rfl ?_ | exact rnT_ok rfl | exact RenO.mapB _ | exact RenO.mapB [] | fail))
        all_goals first | rfl | exact (List.length_set ..).symm | exact List.length_set .. | exact List.map_set.symm | exact List.map_set | (rw [List.map_set]; done) | skip
      · simp only [if_true]
        rw [show wrM s d.addr v2 = s.mem.set a v2 by rw [wrM, ha, Int.toNat_natCast]]
        repeat' (first | refine goR rfl ?_ | refine goS rfl ?_ | refine tret1 rfl ?_ | refine tretN rfl ?_ | refine tr_guard_y rfl rfl ?_ | refine tr_guard_n rfl rfl ?_ | refine ts_cond_t rfl rfl ?_ | refine ts_cond_f rfl rfl ?_ | refine tr_callA rfl (by rw [hP, hG]; exact c1) rfl ?_ | refine tr_light (tl_ixo (m := k) rfl rfl rfl (by omega)) ?_ | refine tr_light (tl_ldE rfl rfl hxt rfl) ?_ | refine tr_storeE rfl rfl hxt rfl rfl rfl rfl rfl rfl ?_ | refine tr_callA rfl (by rw [hP, hG]; exact c4) rfl ?_ | refine tr_light (tl_ixo (m := a) rfl rfl ha (by omega)) ?_ | refine tr_light (tl_ldE rfl rfl hag rfl) ?_ | refine tr_storeE rfl rfl hag rfl rfl rfl rfl rfl rfl ?_ | ((first | refine tg_split rfl (fun h => ?_) (fun h => ?_) | refine ts_cond rfl (fun h => ?_) (fun h => ?_)) <;> (try simp only [decide_eq_true_eq, decide_eq_false_iff_not, Bool.not_eq_true', Bool.not_eq_false', Bool.not_true, Bool.not_false, Bool.not_not, beq_iff_eq, Bool.not_eq_true, Bool.not_eq_false] at h) <;> try (exfalso; omega; done)) | fail)
        refine twret rfl ?_ ⟨rfl, rfl⟩
        (refine w_ren [(0, 0), (1, 1), (2, 2)] rfl (by rw [hp]; decide) rfl ?_ ?_ <;> repeat' (first | exact .nil | exact .f _ rfl | exact .s _ _ _ _ _ _ rfl | exact .p _ _ _ rfl | exact .rows _ _ _ | exact .iter _ _ | exact RenL.nil _ | refine RenL.cons ?_ ?_ | refine .cells _ _ _ ?_ | refine .cons _ _ _ _ rfl ?_ ?_ | refine .cons _ _ _ _ _ rfl rfl ?_ ?_ | refine .rowsE ?_ | refine .sE rfl ?_ | exact .m _ _ rfl | refine .fE rfl ?_ | exact rnT_ok rfl | exact RenO.mapB _ | exact RenO.mapB [] | fail))
        all_goals first | rfl | exact (List.length_set ..).symm | exact List.length_set .. | exact List.map_set.symm | exact List.map_set | (rw [List.map_set]; done) | skip
    rw [if_neg k4]
    repeat' (first | refine goR rfl ?_ | refine goS rfl ?_ | refine tret1 rfl ?_ | refine tretN rfl ?_ | refine tr_guard_y rfl rfl ?_ | refine tr_guard_n rfl rfl ?_ | refine ts_cond_t rfl rfl ?_ | refine ts_cond_f rfl rfl ?_ | refine tr_callA rfl (by rw [hP, hG]; exact c1) rfl ?_ | refine tr_light (tl_ixo (m := k) rfl rfl rfl (by omega)) ?_ | refine tr_light (tl_ldE rfl rfl hxt rfl) ?_ | refine tr_storeE rfl rfl hxt rfl rfl rfl rfl rfl rfl ?_ | refine tr_callA rfl (by rw [hP, hG]; exact c2) rfl ?_ | ((first | refine tg_split rfl (fun h => ?_) (fun h => ?_) | refine ts_cond rfl (fun h => ?_) (fun h => ?_)) <;> (try simp only [decide_eq_true_eq, decide_eq_false_iff_not, Bool.not_eq_true', Bool.not_eq_false', Bool.not_true, Bool.not_false, Bool.not_not, beq_iff_eq, Bool.not_eq_true, Bool.not_eq_false] at h) <;> try (exfalso; omega; done)) | fail)
    refine twret rfl ?_ ⟨rfl, rfl⟩
    (refine w_ren [(0, 0), (1, 1), (2, 2)] rfl (by rw [hp]; decide) rfl ?_ ?_ <;> repeat' (first | exact .nil | exact .f _ rfl | exact .s _ _ _ _ _ _ rfl | exact .p _ _ _ rfl | exact .rows _ _ _ | exact .iter _ _ | exact RenL.nil _ | refine RenL.cons ?_ ?_ | refine .cells _ _ _ ?_ | refine .cons _ _ _ _ rfl ?_ ?_ | refine .cons _ _ _ _ _ rfl rfl ?_ ?_ | refine .rowsE ?_ | refine .sE rfl ?_ | exact .m _ _ rfl | refine .fE rfl ?_ | exact rnT_ok rfl | exact RenO.mapB _ | exact RenO.mapB [] | fail))
    all_goals first | rfl | exact (List.length_set ..).symm | exact List.length_set .. | exact List.map_set.symm | exact List.map_set | (rw [List.map_set]; done) | skip
  · rw [show scW p s t = (s, false) by
      unfold scW
      split
      · rw [List.getElem?_eq_none (by omega)]
      · rfl]
    repeat' (first | refine goR rfl ?_ | refine goS rfl ?_ | refine tret1 rfl ?_ | refine tretN rfl ?_ | refine tr_guard_y rfl rfl ?_ | refine tr_guard_n rfl rfl ?_ | refine ts_cond_t rfl rfl ?_ | refine ts_cond_f rfl rfl ?_ | ((first | refine tg_split rfl (fun h => ?_) (fun h => ?_) | refine ts_cond rfl (fun h => ?_) (fun h => ?_)) <;> (try simp only [decide_eq_true_eq, decide_eq_false_iff_not, Bool.not_eq_true', Bool.not_eq_false', Bool.not_true, Bool.not_false, Bool.not_not, beq_iff_eq, Bool.not_eq_true, Bool.not_eq_false] at h) <;> try (exfalso; omega; done)) | fail)
    all_goals
      refine twret rfl ?_ ⟨rfl, rfl⟩
      (refine w_ren [(0, 0), (1, 1), (2, 2)] rfl (by rw [hp]; decide) rfl ?_ ?_ <;> repeat' (first | exact .nil | exact .f _ rfl | exact .s _ _ _ _ _ _ rfl | exact .p _ _ _ rfl | exact .rows _ _ _ | exact .iter _ _ | exact RenL.nil _ | refine RenL.cons ?_ ?_ | refine .cells _ _ _ ?_ | refine .cons _ _ _ _ rfl ?_ ?_ | refine .cons _ _ _ _ _ rfl rfl ?_ ?_ | refine .rowsE ?_ | refine .sE rfl ?_ | exact .m _ _ rfl | refine .fE rfl ?_ | exact rnT_ok rfl | exact RenO.mapB _ | exact RenO.mapB [] | fail))
      all_goals first | rfl | exact (List.length_set ..).symm | exact List.length_set .. | exact List.map_set.symm | exact List.map_set | (rw [List.map_set]; done) | skip
theorem refStart_own (p : Prg) (c1 : p.syms.length ≤ 64) (c3 : ∀ s ∈ p.syms, 1 ≤ s.size ∧ s.size ≤ 64 ∧ (s.init.length : Int) ≤ s.size) : TC prog G n_ref2_start [.agg (cPrg p)] ⟨[], 0⟩ [] (fun r σ' => r = .s 0 1 0 (startF p.syms).length true ∧ σ' = ⟨[(0, .rows 1 ((startF p.syms).map fun n => [tI n]) ty_int64)], 1⟩) := by
  refine TC.of mixedOk (fn := f_ref2_start) (by kernel_rfl) (by kernel_rfl) ok_ref2_start rfl fun C hP hG hp => goF ?_
  simp only [fs_ref2_start, targEnv, Nat.zero_add, Nat.reduceAdd]
  repeat' (first | refine goR rfl ?_ | refine goS rfl ?_ | refine tret1 rfl ?_ | refine tretN rfl ?_ | refine tr_guard_y rfl rfl ?_ | refine tr_guard_n rfl rfl ?_ | refine ts_cond_t rfl rfl ?_ | refine ts_cond_f rfl rfl ?_ | fail)
  refine loopS (fun m env σ => ∃ a b, p.syms = a ++ b ∧ m = b.length ∧ env = [(1, .p 0 0), (3, .s 1 1 0 (startF a).length true), (4, tI a.length)] ∧ σ = ⟨[(0, .cells (cPrg p) ty_api_Prog), (1, .rows 1 ((startF a).map fun n => [tI n]) ty_int64)], 2⟩) p.syms.length
    ((w_virt (d := 3) 1 ty_int64 rfl).trans ?_) ⟨[], p.syms, rfl, rfl, rfl, rfl⟩ ?_
  · (refine w_ren [(0, 0), (1, 1)] rfl (by rw [hp]; decide) rfl ?_ ?_ <;> repeat' (first | exact .nil | exact .f _ rfl | exact .s _ _ _ _ _ _ rfl | exact .p _ _ _ rfl | exact .rows _ _ _ | exact .iter _ _ | exact RenL.nil _ | refine RenL.cons ?_ ?_ | refine .cells _ _ _ ?_ | refine .cons _ _ _ _ rfl ?_ ?_ | refine .cons _ _ _ _ _ rfl rfl ?_ ?_ | refine .rowsE ?_ | refine .sE rfl ?_ | exact .m _ _ rfl | refine .fE rfl ?_ | exact rnT_ok rfl | exact RenO.mapB _ | exact RenO.mapB [] | fail))
  rintro m env σ ⟨a, b, e, rfl, rfl, rfl⟩
  have hla : p.syms.length = a.length + b.length := by rw [e, List.length_append]
  have hsl := start_len a (fun s hs => c3 s (by rw [e]; exact List.mem_append_left _ hs))
  cases b with
  | nil =>
    rw [List.length_nil] at hla
    rw [List.append_nil] at e
    repeat' (first | refine goR rfl ?_ | refine goS rfl ?_ | refine tret1 rfl ?_ | refine tretN rfl ?_ | refine tr_guard_y rfl rfl ?_ | refine tr_guard_n rfl rfl ?_ | refine ts_cond_t rfl rfl ?_ | refine ts_cond_f rfl rfl ?_ | refine ts_cond_f rfl (decide_eq_false (by rw [List.length_map]; omega)) ?_ | fail)
    rw [e]
    refine twret rfl ?_ ⟨rfl, rfl⟩
    (refine w_ren [(0, 1)] rfl (by rw [hp]; decide) rfl ?_ ?_ <;> repeat' (first | exact .nil | exact .f _ rfl | exact .s _ _ _ _ _ _ rfl | exact .p _ _ _ rfl | exact .rows _ _ _ | exact .iter _ _ | exact RenL.nil _ | refine RenL.cons ?_ ?_ | refine .cells _ _ _ ?_ | refine .cons _ _ _ _ rfl ?_ ?_ | refine .cons _ _ _ _ _ rfl rfl ?_ ?_ | refine .rowsE ?_ | refine .sE rfl ?_ | exact .m _ _ rfl | refine .fE rfl ?_ | exact rnT_ok rfl | exact RenO.mapB _ | exact RenO.mapB [] | fail))
  | cons x b =>
    have hx : p.syms[a.length]? = some x := by rw [e]; exact ix
    simp only [List.length_cons] at hla
    obtain ⟨g1, g2, g3⟩ := c3 x (by rw [e]; simp)
    have hcl := cellsS_len x g3
    repeat' (first | refine goR rfl ?_ | refine goS rfl ?_ | refine tret1 rfl ?_ | refine tretN rfl ?_ | refine tr_guard_y rfl rfl ?_ | refine tr_guard_n rfl rfl ?_ | refine ts_cond_t rfl rfl ?_ | refine ts_cond_f rfl rfl ?_ | refine ts_cond_t rfl (decide_eq_true (by rw [List.length_map]; omega)) ?_ | fail)
    refine loopS (fun m env σ => ∃ k : Nat, (k : Int) ≤ x.size ∧ m = (x.size - k).toNat ∧ env = [(1, .p 0 0), (3, .s 1 1 0 (startF a ++ (cellsS x).take k).length true), (4, tI a.length), (5, tI k)] ∧
      σ = ⟨[(0, .cells (cPrg p) ty_api_Prog), (1, .rows 1 ((startF a ++ (cellsS x).take k).map fun n => [tI n]) ty_int64)], 2⟩) x.size.toNat ?_ ⟨0, by omega, by omega, rfl, rfl⟩ ?_
    · (refine w_ren [(0, 0), (1, 1)] rfl (by rw [hp]; decide) rfl ?_ ?_ <;> repeat' (first | exact .nil | exact .f _ rfl | exact .s _ _ _ _ _ _ rfl | exact .p _ _ _ rfl | exact .rows _ _ _ | exact .iter _ _ | exact RenL.nil _ | refine RenL.cons ?_ ?_ | refine .cells _ _ _ ?_ | refine .cons _ _ _ _ rfl ?_ ?_ | refine .cons _ _ _ _ _ rfl rfl ?_ ?_ | refine .rowsE ?_ | refine .sE rfl ?_ | exact .m _ _ rfl | refine .fE rfl ?_ | exact rnT_ok rfl | exact RenO.mapB _ | exact RenO.mapB [] | fail))
      all_goals simp
    rintro m env σ ⟨k, hk, rfl, rfl, rfl⟩
    have hxi : (x.init.map fun n => [tI n]).length = x.init.length := List.length_map ..
    have htk : ((cellsS x).take k).length = k := by rw [List.length_take]; omega
    have hll : (startF a ++ (cellsS x).take k).length = (startF a).length + k := by rw [List.length_append, htk]
    by_cases hlt : (k : Int) < x.size
    · have hg := cellsS_get x k g3 hlt
      by_cases hin : k < x.init.length
      · have hi : x.init[k]? = some x.init[k] := List.getElem?_eq_getElem hin
        rw [dif_pos hin] at hg
        generalize x.init[k] = v at hi hg
        repeat' (first | refine goR rfl ?_ | refine goS rfl ?_ | refine tret1 rfl ?_ | refine tretN rfl ?_ | refine tr_guard_y rfl rfl ?_ | refine tr_guard_n rfl rfl ?_ | refine ts_cond_t rfl rfl ?_ | refine ts_cond_f rfl rfl ?_ | refine tr_light (tl_ixm rfl rfl rfl hx) ?_ | refine ts_cond_t rfl (decide_eq_true (by omega)) ?_ | refine tr_light (tl_ixm rfl rfl rfl hi) ?_ | refine tr_append rfl rfl (by rw [List.length_map]) (.inr (.inr ⟨_, _, _, _, rfl, rfl, rfl⟩)) (by simp only [List.length_cons, List.length_nil]; omega) rfl ?_ | fail)
        refine again (m' := (x.size - (k + 1 : Nat)).toNat) (by omega) ?_ ⟨k + 1, by omega, rfl, rfl, rfl⟩
        (refine w_ren [(0, 0), (1, 3)] rfl (by rw [hp]; decide) rfl ?_ ?_ <;> repeat' (first | exact .nil | exact .f _ rfl | exact .s _ _ _ _ _ _ rfl | exact .p _ _ _ rfl | exact .rows _ _ _ | exact .iter _ _ | exact RenL.nil _ | refine RenL.cons ?_ ?_ | refine .cells _ _ _ ?_ | refine .cons _ _ _ _ rfl ?_ ?_ | refine .cons _ _ _ _ _ rfl rfl ?_ ?_ | refine .rowsE ?_ | refine .sE rfl ?_ | exact .m _ _ rfl | refine .fE rfl ?_ | exact rnT_ok rfl | exact RenO.mapB _ | exact RenO.mapB [] | fail))
        · rw [hg]; simp only [List.length_append, List.length_cons, List.length_nil]; omega
        · rw [w64 (by omega)]; rfl
        · rw [hg]; simp [toTV]
      · rw [dif_neg hin] at hg
        repeat' (first | refine goR rfl ?_ | refine goS rfl ?_ | refine tret1 rfl ?_ | refine tretN rfl ?_ | refine tr_guard_y rfl rfl ?_ | refine tr_guard_n rfl rfl ?_ | refine ts_cond_t rfl rfl ?_ | refine ts_cond_f rfl rfl ?_ | refine tr_light (tl_ixm rfl rfl rfl hx) ?_ | refine ts_cond_t rfl (decide_eq_true (by omega)) ?_ | refine ts_cond_f rfl (decide_eq_false (by omega)) ?_ | refine tr_append rfl rfl (by rw [List.length_map]) (.inr (.inr ⟨_, _, _, _, rfl, rfl, rfl⟩)) (by simp only [List.length_cons, List.length_nil]; omega) rfl ?_ | fail)
        refine again (m' := (x.size - (k + 1 : Nat)).toNat) (by omega) ?_ ⟨k + 1, by omega, rfl, rfl, rfl⟩
        (refine w_ren [(0, 0), (1, 3)] rfl (by rw [hp]; decide) rfl ?_ ?_ <;> repeat' (first | exact .nil | exact .f _ rfl | exact .s _ _ _ _ _ _ rfl | exact .p _ _ _ rfl | exact .rows _ _ _ | exact .iter _ _ | exact RenL.nil _ | refine RenL.cons ?_ ?_ | refine .cells _ _ _ ?_ | refine .cons _ _ _ _ rfl ?_ ?_ | refine .cons _ _ _ _ _ rfl rfl ?_ ?_ | refine .rowsE ?_ | refine .sE rfl ?_ | exact .m _ _ rfl | refine .fE rfl ?_ | exact rnT_ok rfl | exact RenO.mapB _ | exact RenO.mapB [] | fail))
        · rw [hg]; simp only [List.length_append, List.length_cons, List.length_nil]; omega
        · rw [w64 (by omega)]; rfl
        · rw [hg]; simp [toTV]
    · have hke : (k : Int) = x.size := by omega
      have hfull : (cellsS x).take k = cellsS x := List.take_of_length_le (by omega)
      repeat' (first | refine goR rfl ?_ | refine goS rfl ?_ | refine tret1 rfl ?_ | refine tretN rfl ?_ | refine tr_guard_y rfl rfl ?_ | refine tr_guard_n rfl rfl ?_ | refine ts_cond_t rfl rfl ?_ | refine ts_cond_f rfl rfl ?_ | refine tr_light (tl_ixm rfl rfl rfl hx) ?_ | refine ts_cond_f rfl (decide_eq_false (by omega)) ?_ | fail)
      refine again (m' := b.length) (Nat.lt_succ_self _) ?_ ⟨a ++ [x], b, by rw [e]; simp, rfl, rfl, rfl⟩
      (refine w_ren [(0, 0), (1, 1)] rfl (by rw [hp]; decide) rfl ?_ ?_ <;> repeat' (first | exact .nil | exact .f _ rfl | exact .s _ _ _ _ _ _ rfl | exact .p _ _ _ rfl | exact .rows _ _ _ | exact .iter _ _ | exact RenL.nil _ | refine RenL.cons ?_ ?_ | refine .cells _ _ _ ?_ | refine .cons _ _ _ _ rfl ?_ ?_ | refine .cons _ _ _ _ _ rfl rfl ?_ ?_ | refine .rowsE ?_ | refine .sE rfl ?_ | exact .m _ _ rfl | refine .fE rfl ?_ | exact rnT_ok rfl | exact RenO.mapB _ | exact RenO.mapB [] | fail))
      all_goals first | (rw [w64 (by omega), List.length_append, List.length_singleton]; rfl) | (rw [hfull, startF_def, startF_def, List.flatMap_append]; simp)
theorem begin_raw (p : Prg) (c1 : p.syms.length ≤ 64) (c2 : p.threads.length ≤ 64) (c3 : ∀ s ∈ p.syms, 1 ≤ s.size ∧ s.size ≤ 64 ∧ (s.init.length : Int) ≤ s.size) : TC prog G n_ref2_Begin [.agg (cPrg p), tI 0] ⟨[], 0⟩ [] (fun r σ' => r = .agg [.s 0 1 0 (startF p.syms).length true, .s 1 16 0 (((p.threads.map cTh).length : Nat) : Int).toNat true, .s 2 1 0 0 true, tI 0] ∧
    σ' = ⟨[(0, memT (start0 p)), (1, .rows 16 (List.replicate (((p.threads.map cTh).length : Nat) : Int).toNat (cThr zThr)) ty_api_Thr), (2, .rows 1 [] ty_sl_api_Entry)], 3⟩) := by
  have e2 : (p.threads.map cTh).length = p.threads.length := List.length_map ..
  have c4 := refStart_own (G := G) p c1 c3
  refine TC.of mixedOk (fn := f_ref2_Begin) (by kernel_rfl) (by kernel_rfl) ok_ref2_Begin rfl fun C hP hG hp => goF ?_
  simp only [fs_ref2_Begin, targEnv, Nat.zero_add, Nat.reduceAdd]
  repeat' (first | refine goR rfl ?_ | refine goS rfl ?_ | refine tret1 rfl ?_ | refine tretN rfl ?_ | refine tr_guard_y rfl rfl ?_ | refine tr_guard_n rfl rfl ?_ | refine ts_cond_t rfl rfl ?_ | refine ts_cond_f rfl rfl ?_ | refine tr_mcallB hP hG (c4) rfl [] rfl rfl rfl rfl rfl rfl ?_ | refine tr_makeR (ys := [.lst 2 []]) rfl rfl (.nil1 2) rfl (by omega) ?_ | refine tr_make rfl rfl rfl rfl (by omega) ?_ | fail)
  refine twret rfl ?_ ⟨rfl, rfl⟩
  (refine w_ren [(0, 4), (1, 2), (2, 3)] rfl (by rw [hp]; decide) rfl ?_ ?_ <;> repeat' (first | exact .nil | exact .f _ rfl | exact .s _ _ _ _ _ _ rfl | exact .p _ _ _ rfl | exact .rows _ _ _ | exact .iter _ _ | exact RenL.nil _ | refine RenL.cons ?_ ?_ | refine .cells _ _ _ ?_ | refine .cons _ _ _ _ rfl ?_ ?_ | refine .cons _ _ _ _ _ rfl rfl ?_ ?_ | refine .rowsE ?_ | refine .sE rfl ?_ | exact .m _ _ rfl | refine .fE rfl ?_ | exact rnT_ok rfl | exact RenO.mapB _ | exact RenO.mapB [] | fail))
theorem begin_own (p : Prg) (c1 : p.syms.length ≤ 64) (c2 : p.threads.length ≤ 64) (c3 : ∀ s ∈ p.syms, 1 ≤ s.size ∧ s.size ≤ 64 ∧ (s.init.length : Int) ≤ s.size) : TC prog G n_ref2_Begin [.agg (cPrg p), tI 0] ⟨[], 0⟩ [] (fun r σ' => r = .agg [.s 0 1 0 (start0 p).mem.length true, .s 1 16 0 (start0 p).thr.length true, .s 2 1 0 0 true, tI 0] ∧ σ' = ⟨[(0, memT (start0 p)), (1, thrT (start0 p)), (2, .rows 1 [] ty_sl_api_Entry)], 3⟩) := by
  have := begin_raw (G := G) p c1 c2 c3
  have e : (((p.threads.map cTh).length : Nat) : Int).toNat = (start0 p).thr.length := by
    rw [Int.toNat_natCast, List.length_map]
    exact (List.length_replicate ..).symm
  rw [e] at this
  have e2 : List.replicate (start0 p).thr.length (cThr zThr) = (start0 p).thr.map cThr := by
    show List.replicate (List.replicate _ _).length _ = (List.replicate _ _).map _
    rw [List.length_replicate, List.map_replicate]
  rw [e2] at this
  exact this
end
end Go.Proofs.YtfimjmkhmfnaeaaGreatDoor
namespace Go.Proofs.YtfimjmkhmfnaeaaGreatDoor
set_option maxRecDepth 20000
open Go Go.Proofs.YtfimjmkhmfnaeaaGreatDoor.V Go.Proofs
section
attribute [local irreducible] TwS TwR thenT inBlockT retT nextW localW loadedW swapW scW
variable {G : World → Prop}
theorem scPlays (l : List (List Act)) (hl : ∀ r ∈ l, ∀ a ∈ r, inR a.n) (steps : List Int) : Pure prog Tabs n_law_ScPlays [cActs l, rwI steps] (tB true) := by
  obtain ⟨p, ho, hc, hn, c1, h3, hq, _⟩ := book_sc l hl
  have hth : (p.threads.map cTh).length = p.threads.length := List.length_map ..
  have hpl : (start0 p).thr.length = p.threads.length := List.length_replicate ..
  obtain ⟨k1, k2, k3, _⟩ := check_syms hc
  have c2 := new_own p ho hc (start_okS hc) rfl
  have c3 := begin_own (G := Tabs) p k1 k2 k3
  have c4 := fun G => steps_own (G := G) steps (p.threads.map cTh).length 60 (by omega) (by decide)
  have hsl : (stepsF steps (p.threads.map cTh).length 60).length ≤ 60 := by rw [stepsF, List.length_map, List.length_take]; omega
  generalize stepsF steps (p.threads.map cTh).length 60 = row at c4 hsl
  have hsm : (row.map fun n => [tI n]).length = row.length := List.length_map ..
  refine Pure.of mixedOk (fn := f_law_ScPlays) (by kernel_rfl) (by kernel_rfl) ok_law_ScPlays rfl fun C hP hG hp => goF ?_
  simp only [fs_law_ScPlays, targEnv, Nat.zero_add, Nat.reduceAdd]
  repeat' (first | refine goR rfl ?_ | refine goS rfl ?_ | refine tret1 rfl ?_ | refine tretN rfl ?_ | refine tr_guard_y rfl rfl ?_ | refine tr_guard_n rfl rfl ?_ | refine ts_cond_t rfl rfl ?_ | refine ts_cond_f rfl rfl ?_ | refine tr_callA rfl (by rw [hP]; exact c1 _) rfl ?_ | refine tr_mcallD hP hG (c2) rfl [] [(1, 0), (2, 1), (3, 2)] 4 rfl rfl rfl rfl rfl rfl rfl rfl rfl rfl ?_ | fail)
  refine tr_mcallD hP hG c3 rfl [] [(4, 0), (5, 1), (6, 2)] 7 rfl rfl rfl rfl rfl rfl rfl rfl rfl rfl ?_
  refine tr_weak (w_freeze (d := 17) (k := 6) rfl rfl (.aggL (.cons (.refl _) (.cons (.refl _) (.cons (.s 0 true rfl) (.cons (.refl _) .nil)))))) ?_
  repeat' (first | refine goR rfl ?_ | refine goS rfl ?_ | refine tret1 rfl ?_ | refine tretN rfl ?_ | refine tr_guard_y rfl rfl ?_ | refine tr_guard_n rfl rfl ?_ | refine ts_cond_t rfl rfl ?_ | refine ts_cond_f rfl rfl ?_ | fail)
  refine tr_mcallD hP hG (c4 _) rfl [] [(8, 0)] 9 rfl rfl rfl rfl rfl rfl rfl rfl rfl rfl ?_
  refine tr_weak (w_freeze (d := 22) (k := 8) rfl rfl (.s _ true (by rw [List.length_map]))) ?_
  repeat' (first | refine goR rfl ?_ | refine goS rfl ?_ | refine tret1 rfl ?_ | refine tretN rfl ?_ | refine tr_guard_y rfl rfl ?_ | refine tr_guard_n rfl rfl ?_ | refine ts_cond_t rfl rfl ?_ | refine ts_cond_f rfl rfl ?_ | fail)
  refine loopS (fun m env σ => ∃ a b, row = a ++ b ∧ m = b.length ∧ env = [(5, .p 6 0), (6, .p 0 0), (7, .p 3 0), (8, rwI row), (9, tI a.length)] ∧ σ = ⟨scM p (runF p (start0 p) a).1 0 ++ (rfM (runF p (start0 p) a).1 (.lst 1 []) 3 ++ [(6, .cells (cPrg p) ty_api_Prog)]), 7⟩) row.length ?_ ⟨[], row, rfl, rfl, rfl, rfl⟩ ?_
  · (refine w_ren [(0, 1), (1, 2), (2, 3), (3, 7), (4, 4), (5, 5), (6, 0)] rfl (by rw [hp]; decide) rfl ?_ ?_ <;> repeat' (first | exact .nil | exact .f _ rfl | exact .s _ _ _ _ _ _ rfl | exact .p _ _ _ rfl | exact .rows _ _ _ | exact .iter _ _ | exact RenL.nil _ | refine RenL.cons ?_ ?_ | refine .cells _ _ _ ?_ | refine .cons _ _ _ _ rfl ?_ ?_ | refine .cons _ _ _ _ _ rfl rfl ?_ ?_ | refine .rowsE ?_ | refine .sE rfl ?_ | exact .m _ _ rfl | refine .fE rfl ?_ | exact rnT_ok rfl | exact RenO.mapB _ | exact RenO.mapB [] | fail))
    all_goals skip
  rintro m env σ ⟨a, b, e, rfl, rfl, rfl⟩
  have hla : row.length = a.length + b.length := by rw [e, List.length_append]
  cases b with
  | nil =>
    rw [List.length_nil] at hla
    repeat' (first | refine goR rfl ?_ | refine goS rfl ?_ | refine tret1 rfl ?_ | refine tretN rfl ?_ | refine tr_guard_y rfl rfl ?_ | refine tr_guard_n rfl rfl ?_ | refine ts_cond_t rfl rfl ?_ | refine ts_cond_f rfl rfl ?_ | refine ts_cond_f rfl (decide_eq_false (by omega)) ?_ | refine tr_callA rfl (by rw [hP, hG]; exact alive_spec) rfl ?_ | fail)
    exact .fr rfl
  | cons x b =>
    have hx : row[a.length]? = some x := by rw [e]; exact ix
    simp only [List.length_cons] at hla
    obtain ⟨e1, e2, e3, e4, _⟩ := runF_ok hn hq a
    have hs := runF_snoc p (start0 p) a x
    generalize (runF p (start0 p) a).2 = n at hs
    generalize (runF p (start0 p) a).1 = s at hs e1 e2 e3 e4
    have c5 := step_own p ho hc s e1 (by omega) x
    have c6 := sc_own p ho hc s e1 (by omega) x
    obtain ⟨f1, f2, f3, f4⟩ := scW_ok hn e1 x
    have hok := stQ_okS hc f1 (f2.trans (e2.trans hpl)) (f3.trans e3)
    have c7 := state_own (G := Tabs) p (scW p s x).1 hok (f3.trans e3)
    have c8 := fun G => same_own (G := G) (scW p s x).1 hok (f3.trans e3)
    generalize (scW p s x).1 = s' at c5 c6 c7 c8 hs
    cases hb : (scW p s x).2
    all_goals
      rw [hb] at c5 c6
      repeat' (first | refine goR rfl ?_ | refine goS rfl ?_ | refine tret1 rfl ?_ | refine tretN rfl ?_ | refine tr_guard_y rfl rfl ?_ | refine tr_guard_n rfl rfl ?_ | refine ts_cond_t rfl rfl ?_ | refine ts_cond_f rfl rfl ?_ | refine ts_cond_t rfl (decide_eq_true (by omega)) ?_ | refine tr_light (tl_ixm rfl rfl rfl hx) ?_ | refine tr_mcallD hP hG (c5) rfl [(0, 0), (1, 1), (2, 2)] [(0, 0), (1, 1), (2, 2)] 10 rfl rfl rfl rfl rfl rfl rfl rfl rfl rfl ?_ | refine tr_mcallD hP hG (c6) rfl [(0, 3), (1, 4), (2, 5)] [(3, 0), (4, 1), (5, 2)] 13 rfl rfl rfl rfl rfl rfl rfl rfl rfl rfl ?_ | refine tr_light (tl_neb (by rw [hP]; exact ut_bool) rfl rfl) ?_ | refine tr_mcallD hP hG (c7) rfl [(0, 0), (1, 1), (2, 2)] [(0, 0), (1, 1), (2, 2), (16, 3), (17, 4)] 18 rfl rfl rfl rfl rfl rfl rfl rfl rfl rfl ?_ | refine tr_callL rfl (.cons (.aggL (.cons (.s 16 1 _ true _ _ rfl (by rw [List.length_map])) (.cons (.s 17 16 _ true _ _ rfl (by rw [List.length_map])) (.cons (.nil 1) (.cons (.fr rfl) .nil))))) (.cons (.aggL (.cons (.s 4 1 _ true _ _ rfl (by rw [List.length_map])) (.cons (.s 5 16 _ true _ _ rfl (by rw [List.length_map])) (.cons (.fr rfl) (.cons (.fr rfl) .nil))))) .nil)) (by rw [hP]; exact c8 _) rfl ?_ | fail)
      refine again (m' := b.length) (Nat.lt_succ_self _) ?_ ⟨a ++ [x], b, by rw [e]; simp, rfl, rfl, by rw [hs]⟩
      (refine w_ren [(0, 0), (1, 1), (2, 2), (3, 3), (4, 4), (5, 5), (6, 6)] rfl (by rw [hp]; decide) rfl ?_ ?_ <;> repeat' (first | exact .nil | exact .f _ rfl | exact .s _ _ _ _ _ _ rfl | exact .p _ _ _ rfl | exact .rows _ _ _ | exact .iter _ _ | exact RenL.nil _ | refine RenL.cons ?_ ?_ | refine .cells _ _ _ ?_ | refine .cons _ _ _ _ rfl ?_ ?_ | refine .cons _ _ _ _ _ rfl rfl ?_ ?_ | refine .rowsE ?_ | refine .sE rfl ?_ | exact .m _ _ rfl | refine .fE rfl ?_ | exact rnT_ok rfl | exact RenO.mapB _ | exact RenO.mapB [] | fail))
      all_goals (rw [w64 (by omega), List.length_append, List.length_singleton]; rfl)
end
end Go.Proofs.YtfimjmkhmfnaeaaGreatDoor
