/-
  Walks of functions of the program, and what the laws need of them.
-/
import Derived.Test.YtfimjmkhmfnaeaaDoorRPJ
set_option linter.all false
set_option linter.unusedSimpArgs false
set_option linter.unusedVariables false
set_option linter.unnecessarySimpa false
namespace Go.Proofs.YtfimjmkhmfnaeaaDoor
set_option maxRecDepth 20000
open Go Go.Proofs.YtfimjmkhmfnaeaaDoor.V Go.Proofs
def stN (s : State) : List TV := [rwI s.mem, .lst 16 (s.thr.map cThr), .v (.slice none 0 0), tI s.lock]
section
attribute [local irreducible] TwS TwR thenT inBlockT retT nextW localW loadedW swapW scW
variable {G : World → Prop}
theorem copy2_spec (s : State) (ho : okS s) : Pure prog G n_ref2_Copy [.agg (stN s)] (.agg (stN s)) := by
  obtain ⟨h1, h2, h3, h4⟩ := ho
  have e1 : (s.mem.map fun n => [tI n]).length = s.mem.length := List.length_map ..
  have e2 : (s.thr.map cThr).length = s.thr.length := List.length_map ..
  refine Pure.of mixedOk (fn := f_ref2_Copy) (by kernel_rfl) (by kernel_rfl) ok_ref2_Copy rfl fun C hP hG hp => goF ?_
  simp only [fs_ref2_Copy, targEnv, Nat.zero_add, Nat.reduceAdd]
  repeat' (first | refine goR rfl ?_ | refine goS rfl ?_ | refine tret1 rfl ?_ | refine tretN rfl ?_ | refine tr_guard_y rfl rfl ?_ | refine tr_guard_n rfl rfl ?_ | refine ts_cond_t rfl rfl ?_ | refine ts_cond_f rfl rfl ?_ | refine tr_append0 rfl (.inl rfl) (by omega) rfl ?_ | fail)
  refine loopS (fun m env σ => env = [(1, .p 0 0), (2, .p 1 0), (3, .p 2 0), (4, tI 0)] ∧ σ = ⟨[(0, .cells (stN s) ty_api_State), (1, .cells [.v (.slice none 0 0), .v (.slice none 0 0), .v (.slice none 0 0), tI 0] ty_api_State), (2, .cells [.s 3 1 0 s.mem.length true, .s 4 16 0 s.thr.length true, .v (.slice none 0 0), tI s.lock] ty_api_State), (3, .rows 1 (s.mem.map fun n => [tI n]) ty_int64), (4, .rows 16 (s.thr.map cThr) ty_api_Thr)], 5⟩) 0 ?_ ⟨rfl, rfl⟩ ?_
  · (refine w_ren [(0, 0), (1, 1), (2, 2), (3, 3), (4, 4)] rfl (by rw [hp]; decide) rfl ?_ ?_ <;> repeat' (first | exact .nil | exact .f _ rfl | exact .s _ _ _ _ _ _ rfl | exact .p _ _ _ rfl | exact .rows _ _ _ | exact .iter _ _ | exact RenL.nil _ | refine RenL.cons ?_ ?_ | refine .cells _ _ _ ?_ | refine .cons _ _ _ _ rfl ?_ ?_ | refine .cons _ _ _ _ _ rfl rfl ?_ ?_ | refine .rowsE ?_ | refine .sE rfl ?_ | exact .m _ _ rfl | refine .fE rfl ?_ | exact rnT_ok rfl | exact RenO.mapB _ | exact RenO.mapB [] | fail))
    all_goals omega
  rintro m env σ ⟨rfl, rfl⟩
  repeat' (first | refine goR rfl ?_ | refine goS rfl ?_ | refine tret1 rfl ?_ | refine tretN rfl ?_ | refine tr_guard_y rfl rfl ?_ | refine tr_guard_n rfl rfl ?_ | refine ts_cond_t rfl rfl ?_ | refine ts_cond_f rfl rfl ?_ | fail)
  exact .aggL (.cons (.s 3 1 _ true _ ty_int64 rfl (by rw [List.length_map])) (.cons (.s 4 16 _ true _ ty_api_Thr rfl (by rw [List.length_map])) (.cons (.fr rfl) (.cons (.fr rfl) .nil))))
theorem scCopies (l : List (List Act)) (hl : ∀ r ∈ l, ∀ a ∈ r, inR a.n) (steps more : List Int) : Pure prog Tabs n_law_ScCopies [cActs l, rwI steps, rwI more] (tB true) := by
  obtain ⟨p, ho, hc, hn, c1, h3, hq, _⟩ := book_sc l hl
  have hth : (p.threads.map cTh).length = p.threads.length := List.length_map ..
  have hpl : (start0 p).thr.length = p.threads.length := List.length_replicate ..
  have c2 := new_own p ho hc (start_okS hc) rfl
  have c3 := fun G => steps_own (G := G) steps (p.threads.map cTh).length 40 (by omega) (by decide)
  have hsl : (stepsF steps (p.threads.map cTh).length 40).length ≤ 40 := by rw [stepsF, List.length_map, List.length_take]; omega
  generalize stepsF steps (p.threads.map cTh).length 40 = st at c3 hsl
  have d3 := fun G => steps_own (G := G) more (p.threads.map cTh).length 40 (by omega) (by decide)
  have dsl : (stepsF more (p.threads.map cTh).length 40).length ≤ 40 := by rw [stepsF, List.length_map, List.length_take]; omega
  generalize stepsF more (p.threads.map cTh).length 40 = su at d3 dsl
  have c4 := run_own p ho hc hn (start0 p) hq (by omega) st (by omega)
  obtain ⟨e1, e2, e3, e4, e5⟩ := runF_ok hn hq st
  have hok := stQ_okS hc e1 (e2.trans hpl) e3
  obtain ⟨s, hs⟩ : ∃ s, s = (runF p (start0 p) st).1 := ⟨_, rfl⟩
  rw [← hs] at c4 e1 e2 e3 hok
  generalize (runF p (start0 p) st).2 = n1 at c4
  clear hs e4 e5
  have c5 := state_own (G := Tabs) p s hok e3
  have c6 := fun G => copy2_spec (G := G) s hok
  have c7 := copyM_own (G := Tabs) p s hok e3
  have d4 := run_own p ho hc hn s e1 (by omega) su (by omega)
  have c8 := fun G => same_own (G := G) s hok e3
  generalize (runF p s su).1 = s2 at d4
  generalize (runF p s su).2 = n2 at d4
  have b1 := hok.1
  have b2 := hok.2.1
  refine Pure.of mixedOk (fn := f_law_ScCopies) (by kernel_rfl) (by kernel_rfl) ok_law_ScCopies rfl fun C hP hG hp => goF ?_
  simp only [fs_law_ScCopies, targEnv, Nat.zero_add, Nat.reduceAdd]
  repeat' (first | refine goR rfl ?_ | refine goS rfl ?_ | refine tret1 rfl ?_ | refine tretN rfl ?_ | refine tr_guard_y rfl rfl ?_ | refine tr_guard_n rfl rfl ?_ | refine ts_cond_t rfl rfl ?_ | refine ts_cond_f rfl rfl ?_ | refine tr_callA rfl (by rw [hP]; exact c1 _) rfl ?_ | refine tr_mcallD hP hG (c2) rfl [] [(1, 0), (2, 1), (3, 2)] 4 rfl rfl rfl rfl rfl rfl rfl rfl rfl rfl ?_ | refine tr_mcallD hP hG (c3 _) rfl [] [(4, 0)] 5 rfl rfl rfl rfl rfl rfl rfl rfl rfl rfl ?_ | fail)
  refine tr_weak (w_freeze (d := 25) (k := 4) rfl rfl (.s _ true (by rw [List.length_map]))) ?_
  repeat' (first | refine goR rfl ?_ | refine goS rfl ?_ | refine tret1 rfl ?_ | refine tretN rfl ?_ | refine tr_guard_y rfl rfl ?_ | refine tr_guard_n rfl rfl ?_ | refine ts_cond_t rfl rfl ?_ | refine ts_cond_f rfl rfl ?_ | refine tr_mcallD hP hG (c4) rfl [(0, 1), (1, 2), (2, 3)] [(1, 0), (2, 1), (3, 2)] 8 rfl rfl rfl rfl rfl rfl rfl rfl rfl rfl ?_ | refine tr_mcallD hP hG (c5) rfl [(0, 1), (1, 2), (2, 3)] [(1, 0), (2, 1), (3, 2), (11, 3), (12, 4)] 13 rfl rfl rfl rfl rfl rfl rfl rfl rfl rfl ?_ | fail)
  refine tr_weak ((w_freeze (d := 28) (k := 11) rfl rfl (.aggL (.cons (.s _ true (by rw [List.length_map])) (.cons (.refl _) (.cons (.refl _) (.cons (.refl _) .nil)))))).trans (w_freeze (d := 28) (k := 12) rfl rfl (.aggL (.cons (.refl _) (.cons (.s _ true (by rw [List.length_map])) (.cons (.refl _) (.cons (.refl _) .nil))))))) ?_
  repeat' (first | refine goR rfl ?_ | refine goS rfl ?_ | refine tret1 rfl ?_ | refine tretN rfl ?_ | refine tr_guard_y rfl rfl ?_ | refine tr_guard_n rfl rfl ?_ | refine ts_cond_t rfl rfl ?_ | refine ts_cond_f rfl rfl ?_ | refine tr_callA rfl (by rw [hP]; exact c6 _) rfl ?_ | refine tr_mcallD hP hG (c7) rfl [(0, 1), (1, 2), (2, 3)] [(1, 0), (2, 1), (3, 2), (17, 3), (18, 4), (19, 5)] 20 rfl rfl rfl rfl rfl rfl rfl rfl rfl rfl ?_ | refine tr_mcallD hP hG (d3 _) rfl [] [(20, 0)] 21 rfl rfl rfl rfl rfl rfl rfl rfl rfl rfl ?_ | fail)
  refine tr_weak (w_freeze (d := 39) (k := 20) rfl rfl (.s _ true (by rw [List.length_map]))) ?_
  repeat' (first | refine goR rfl ?_ | refine goS rfl ?_ | refine tret1 rfl ?_ | refine tretN rfl ?_ | refine tr_guard_y rfl rfl ?_ | refine tr_guard_n rfl rfl ?_ | refine ts_cond_t rfl rfl ?_ | refine ts_cond_f rfl rfl ?_ | refine tr_mcallD hP hG (d4) rfl [(0, 17), (1, 18), (2, 19)] [(17, 0), (18, 1), (19, 2)] 24 rfl rfl rfl rfl rfl rfl rfl rfl rfl rfl ?_ | refine tr_mcallD hP hG (c5) rfl [(0, 1), (1, 2), (2, 3)] [(1, 0), (2, 1), (3, 2), (27, 3), (28, 4)] 29 rfl rfl rfl rfl rfl rfl rfl rfl rfl rfl ?_ | fail)
  refine loopS (fun m env σ => ∃ (i : Nat) (mm : List Int), i ≤ mm.length ∧ m = mm.length - i ∧ mm.length = s.mem.length ∧ env = [(8, .p 0 0), (9, .p 3 0), (11, .p 4 0), (12, tI i)] ∧ σ = ⟨scM p s 0 ++ [(3, .cells (stN s) ty_api_State), (4, .cells [.s 5 1 0 mm.length true, .s 6 16 0 s.thr.length true, .v (.slice none 0 0), tI s.lock] ty_api_State), (5, .rows 1 (mm.map fun n => [tI n]) ty_int64), (6, .rows 16 (s.thr.map cThr) ty_api_Thr)], 7⟩) s.mem.length ?_ ⟨0, s.mem, by omega, rfl, rfl, rfl, rfl⟩ ?_
  · (refine w_ren [(0, 1), (1, 2), (2, 3), (3, 13), (4, 29), (5, 27), (6, 28)] rfl (by rw [hp]; decide) rfl ?_ ?_ <;> repeat' (first | exact .nil | exact .f _ rfl | exact .s _ _ _ _ _ _ rfl | exact .p _ _ _ rfl | exact .rows _ _ _ | exact .iter _ _ | exact RenL.nil _ | refine RenL.cons ?_ ?_ | refine .cells _ _ _ ?_ | refine .cons _ _ _ _ rfl ?_ ?_ | refine .cons _ _ _ _ _ rfl rfl ?_ ?_ | refine .rowsE ?_ | refine .sE rfl ?_ | exact .m _ _ rfl | refine .fE rfl ?_ | exact rnT_ok rfl | exact RenO.mapB _ | exact RenO.mapB [] | fail))
    all_goals skip
  rintro m env σ ⟨i, mm, hi, rfl, hmm, rfl, rfl⟩
  by_cases hlt : i < mm.length
  · obtain ⟨x, hx⟩ : ∃ x, (mm.map fun n => [tI n])[i]? = some [tI x] := ⟨mm[i], by rw [List.getElem?_map, List.getElem?_eq_getElem hlt]; rfl⟩
    repeat' (first | refine goR rfl ?_ | refine goS rfl ?_ | refine tret1 rfl ?_ | refine tretN rfl ?_ | refine tr_guard_y rfl rfl ?_ | refine tr_guard_n rfl rfl ?_ | refine ts_cond_t rfl rfl ?_ | refine ts_cond_f rfl rfl ?_ | refine ts_cond_t rfl (decide_eq_true (by omega)) ?_ | refine tr_light (tl_ixo (m := i) rfl rfl rfl hlt) ?_ | refine tr_light (tl_ldE rfl rfl hx rfl) ?_ | refine tr_storeE rfl rfl hx rfl rfl rfl rfl rfl rfl ?_ | fail)
    refine again (m' := mm.length - (i + 1)) (by omega) ?_ ⟨i + 1, mm.set i (IntKind.i64.wrap (x - 1)), by rw [List.length_set]; omega, by rw [List.length_set], by rw [List.length_set]; exact hmm, rfl, rfl⟩
    (refine w_ren [(0, 0), (1, 1), (2, 2), (3, 3), (4, 4), (5, 5), (6, 6)] rfl (by rw [hp]; decide) rfl ?_ ?_ <;> repeat' (first | exact .nil | exact .f _ rfl | exact .s _ _ _ _ _ _ rfl | exact .p _ _ _ rfl | exact .rows _ _ _ | exact .iter _ _ | exact RenL.nil _ | refine RenL.cons ?_ ?_ | refine .cells _ _ _ ?_ | refine .cons _ _ _ _ rfl ?_ ?_ | refine .cons _ _ _ _ _ rfl rfl ?_ ?_ | refine .rowsE ?_ | refine .sE rfl ?_ | exact .m _ _ rfl | refine .fE rfl ?_ | exact rnT_ok rfl | exact RenO.mapB _ | exact RenO.mapB [] | fail))
    all_goals first | rfl | exact (List.length_set ..).symm | exact List.length_set .. | exact List.map_set.symm | exact List.map_set | (rw [List.map_set]; done) | (rw [List.map_set]; rfl) | (rw [w64 (by omega)]; rfl) | skip
  · repeat' (first | refine goR rfl ?_ | refine goS rfl ?_ | refine tret1 rfl ?_ | refine tretN rfl ?_ | refine tr_guard_y rfl rfl ?_ | refine tr_guard_n rfl rfl ?_ | refine ts_cond_t rfl rfl ?_ | refine ts_cond_f rfl rfl ?_ | refine ts_cond_f rfl (decide_eq_false (by omega)) ?_ | fail)
    refine loopS (fun m env σ => ∃ (i : Nat) (tt : List Thr), i ≤ tt.length ∧ m = tt.length - i ∧ tt.length = s.thr.length ∧ env = [(8, .p 0 0), (9, .p 3 0), (11, .p 4 0), (13, tI i)] ∧ σ = ⟨scM p s 0 ++ [(3, .cells (stN s) ty_api_State), (4, .cells [.s 5 1 0 mm.length true, .s 6 16 0 tt.length true, .v (.slice none 0 0), tI s.lock] ty_api_State), (5, .rows 1 (mm.map fun n => [tI n]) ty_int64), (6, .rows 16 (tt.map cThr) ty_api_Thr)], 7⟩) s.thr.length ?_ ⟨0, s.thr, by omega, rfl, rfl, rfl, rfl⟩ ?_
    · (refine w_ren [(0, 0), (1, 1), (2, 2), (3, 3), (4, 4), (5, 5), (6, 6)] rfl (by rw [hp]; decide) rfl ?_ ?_ <;> repeat' (first | exact .nil | exact .f _ rfl | exact .s _ _ _ _ _ _ rfl | exact .p _ _ _ rfl | exact .rows _ _ _ | exact .iter _ _ | exact RenL.nil _ | refine RenL.cons ?_ ?_ | refine .cells _ _ _ ?_ | refine .cons _ _ _ _ rfl ?_ ?_ | refine .cons _ _ _ _ _ rfl rfl ?_ ?_ | refine .rowsE ?_ | refine .sE rfl ?_ | exact .m _ _ rfl | refine .fE rfl ?_ | exact rnT_ok rfl | exact RenO.mapB _ | exact RenO.mapB [] | fail))
    rintro m env σ ⟨i, tt, hi, rfl, htt, rfl, rfl⟩
    by_cases hlt : i < tt.length
    · obtain ⟨x, hx, hx'⟩ : ∃ x, tt[i]? = some x ∧ (tt.map cThr)[i]? = some (cThr x) := ⟨tt[i], List.getElem?_eq_getElem hlt, by rw [List.getElem?_map, List.getElem?_eq_getElem hlt]; rfl⟩
      repeat' (first | refine goR rfl ?_ | refine goS rfl ?_ | refine tret1 rfl ?_ | refine tretN rfl ?_ | refine tr_guard_y rfl rfl ?_ | refine tr_guard_n rfl rfl ?_ | refine ts_cond_t rfl rfl ?_ | refine ts_cond_f rfl rfl ?_ | refine ts_cond_t rfl (decide_eq_true (by omega)) ?_ | refine tr_light (tl_ixo (m := i) rfl rfl rfl hlt) ?_ | refine tr_storeE rfl rfl hx' rfl rfl rfl rfl rfl rfl ?_ | fail)
      refine again (m' := tt.length - (i + 1)) (by omega) ?_ ⟨i + 1, tt.set i { x with pc := -1 }, by rw [List.length_set]; omega, by rw [List.length_set], by rw [List.length_set]; exact htt, rfl, rfl⟩
      (refine w_ren [(0, 0), (1, 1), (2, 2), (3, 3), (4, 4), (5, 5), (6, 6)] rfl (by rw [hp]; decide) rfl ?_ ?_ <;> repeat' (first | exact .nil | exact .f _ rfl | exact .s _ _ _ _ _ _ rfl | exact .p _ _ _ rfl | exact .rows _ _ _ | exact .iter _ _ | exact RenL.nil _ | refine RenL.cons ?_ ?_ | refine .cells _ _ _ ?_ | refine .cons _ _ _ _ rfl ?_ ?_ | refine .cons _ _ _ _ _ rfl rfl ?_ ?_ | refine .rowsE ?_ | refine .sE rfl ?_ | exact .m _ _ rfl | refine .fE rfl ?_ | exact rnT_ok rfl | exact RenO.mapB _ | exact RenO.mapB [] | fail))
      all_goals first | rfl | exact (List.length_set ..).symm | exact List.length_set .. | exact List.map_set.symm | exact List.map_set | (rw [List.map_set]; done) | (rw [List.map_set]; rfl) | (rw [w64 (by omega)]; rfl) | skip
    · repeat' (first | refine goR rfl ?_ | refine goS rfl ?_ | refine tret1 rfl ?_ | refine tretN rfl ?_ | refine tr_guard_y rfl rfl ?_ | refine tr_guard_n rfl rfl ?_ | refine ts_cond_t rfl rfl ?_ | refine ts_cond_f rfl rfl ?_ | refine ts_cond_f rfl (decide_eq_false (by omega)) ?_ | refine tr_mcallD hP hG (c5) rfl [(0, 0), (1, 1), (2, 2)] [(0, 0), (1, 1), (2, 2), (10, 3), (11, 4)] 12 rfl rfl rfl rfl rfl rfl rfl rfl rfl rfl ?_ | refine tr_callL rfl (.cons (.aggL (.cons (.s 10 1 _ true _ _ rfl (by rw [List.length_map])) (.cons (.s 11 16 _ true _ _ rfl (by rw [List.length_map])) (.cons (.nil 1) (.cons (.fr rfl) .nil))))) (.cons (.aggL (.cons (.fr rfl) (.cons (.fr rfl) (.cons (.nil 1) (.cons (.fr rfl) .nil))))) .nil)) (by rw [hP]; exact c8 _) rfl ?_ | refine tr_callA rfl (by rw [hP, hG]; exact alive_spec) rfl ?_ | fail)
      exact .fr rfl
end
end Go.Proofs.YtfimjmkhmfnaeaaDoor
