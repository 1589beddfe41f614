/-
  Walks of functions of the program, and what the laws need of them.
-/
import Derived.Test.YtfimjmkhmfnaeaaGreatDoorRPI
set_option linter.all false
set_option linter.unusedSimpArgs false
set_option linter.unusedVariables false
set_option linter.unnecessarySimpa false
namespace Go.Proofs.YtfimjmkhmfnaeaaGreatDoor
set_option maxRecDepth 20000
open Go Go.Proofs.YtfimjmkhmfnaeaaGreatDoor.V Go.Proofs
def atS2 (s : State) : State := ⟨s.mem, s.thr, [], 0⟩
theorem thr_ofQ (x : Thr) (hx : thrQ x) (raw : Bool) : ∃ y, thrQ y ∧ ∀ G, Pure prog G n_book_Thr [.agg (cThr x), tI 10, tB raw] (.agg (cThr y)) := by
  cases raw
  · exact ⟨thrO x 9, ⟨thrO_in hx.r 9, hx.l⟩, fun G => thrO_spec x 9 (by decide)⟩
  · exact ⟨x, hx, fun G => thrO_raw x _⟩
section
attribute [local irreducible] TwS TwR thenT inBlockT retT nextW localW loadedW swapW scW
variable {G : World → Prop}
theorem at_ownS (p : Prg) (ho : okP p) (hc : checkC p = 0) (s : State) (hm : s.mem.length = (startF p.syms).length) (ht : s.thr.length = p.threads.length) (hb : s.mem.length ≤ 1000000000 ∧ s.thr.length ≤ 1000000000) :
    TC prog Tabs n_sc_At [.agg (cPrg p), .agg [.s 0 1 0 s.mem.length true, .s 1 16 0 s.thr.length true, .lst 1 [], tI s.lock]] ⟨[(0, memT s), (1, thrT s)], 2⟩ [0, 1] (fun r σ' => r = .p 2 0 ∧ σ' = ⟨[(0, memT s), (1, thrT s)] ++ scM p (atS2 s) 2, 5⟩) := by
  have c1 := new_own p ho hc (start_okS hc) rfl
  have c2 := copySt_own (G := Tabs) (atS2 s) ⟨hb.1, hb.2, Nat.zero_le _, fun l h => by cases h⟩ rfl
  rw [show cState (atS2 s) = [rwI s.mem, .lst 16 (s.thr.map cThr), .lst 1 [], tI 0] from rfl] at c2
  have e3 : (start0 p).mem.length = s.mem.length := hm.symm
  have e4 : (start0 p).thr.length = s.thr.length := (List.length_replicate ..).trans ht.symm
  generalize start0 p = s0 at c1 e3 e4
  refine TC.of mixedOk (fn := f_sc_At) (by kernel_rfl) (by kernel_rfl) ok_sc_At rfl fun C hP hG hp => goF ?_
  simp only [fs_sc_At, targEnv, Nat.zero_add, Nat.reduceAdd]
  repeat' (first | refine goR rfl ?_ | refine goS rfl ?_ | refine tret1 rfl ?_ | refine tretN rfl ?_ | refine tr_guard_y rfl rfl ?_ | refine tr_guard_n rfl rfl ?_ | refine ts_cond_t rfl rfl ?_ | refine ts_cond_f rfl rfl ?_ | refine tr_mcallD hP hG (c1) rfl [] [(4, 0), (5, 1), (6, 2)] 7 rfl rfl rfl rfl rfl rfl rfl rfl rfl rfl ?_ | refine tr_mcallF hP hG c2 rfl (.cons (.aggL (.cons (.s 0 1 _ true _ _ rfl (by rw [List.length_map])) (.cons (.s 1 16 _ true _ _ rfl (by rw [List.length_map])) (.cons (.nil 1) (.cons (.fr rfl) .nil))))) .nil) rfl rfl rfl rfl (selfS_cons (self_rows (fun _ => rfl) _ _ _) (selfS_cons (self_rows (fun _ => rfl) _ _ _) selfS_nil)) ?_ | ((first | refine tg_split rfl (fun h => ?_) (fun h => ?_) | refine ts_cond rfl (fun h => ?_) (fun h => ?_)) <;> (try simp only [decide_eq_true_eq, decide_eq_false_iff_not, Bool.not_eq_true', Bool.not_eq_false', Bool.not_true, Bool.not_false, Bool.not_not, beq_iff_eq, Bool.not_eq_true, Bool.not_eq_false] at h) <;> try (exfalso; omega; done)) | fail)
  refine twret rfl ?_ ⟨rfl, rfl⟩
  (refine w_ren [(0, 0), (1, 1), (2, 4), (3, 7), (4, 8)] rfl (by rw [hp]; decide) rfl ?_ ?_ <;> repeat' (first | exact .nil | exact .f _ rfl | exact .s _ _ _ _ _ _ rfl | exact .p _ _ _ rfl | exact .rows _ _ _ | exact .iter _ _ | exact RenL.nil _ | refine RenL.cons ?_ ?_ | refine .cells _ _ _ ?_ | refine .cons _ _ _ _ rfl ?_ ?_ | refine .cons _ _ _ _ _ rfl rfl ?_ ?_ | refine .rowsE ?_ | refine .sE rfl ?_ | exact .m _ _ rfl | refine .fE rfl ?_ | exact rnT_ok rfl | exact RenO.mapB _ | exact RenO.mapB [] | fail))
set_option maxHeartbeats 1000000 in
theorem scRaw (l : List (List Act)) (hl : ∀ r ∈ l, ∀ a ∈ r, inR a.n) (mem : List Int) (hme : ∀ v ∈ mem, inR v) (thr : List Thr) (hte : ∀ x ∈ thr, thrQ x) (steps : List Int) : Pure prog Tabs n_law_ScRaw [cActs l, rwI mem, .lst 16 (thr.map cThr), rwI steps] (tB true) := by
  obtain ⟨p, ho, hc, hn, c1, h3, hq, _⟩ := book_sc l hl
  have hth : (p.threads.map cTh).length = p.threads.length := List.length_map ..
  have hpl : (start0 p).thr.length = p.threads.length := List.length_replicate ..
  obtain ⟨k1, k2, k3, _⟩ := check_syms hc
  have hsl := start_len p.syms k3
  have c3 := begin_own (G := Tabs) p k1 k2 k3
  have hmm : (mem.map fun n => [tI n]).length = mem.length := List.length_map ..
  have htm : (thr.map cThr).length = thr.length := List.length_map ..
  refine Pure.of mixedOk (fn := f_law_ScRaw) (by kernel_rfl) (by kernel_rfl) ok_law_ScRaw rfl fun C hP hG hp => goF ?_
  simp only [fs_law_ScRaw, targEnv, Nat.zero_add, Nat.reduceAdd]
  repeat' (first | refine goR rfl ?_ | refine goS rfl ?_ | refine tret1 rfl ?_ | refine tretN rfl ?_ | refine tr_guard_y rfl rfl ?_ | refine tr_guard_n rfl rfl ?_ | refine ts_cond_t rfl rfl ?_ | refine ts_cond_f rfl rfl ?_ | refine tr_callA rfl (by rw [hP]; exact c1 _) rfl ?_ | fail)
  refine tr_mcallD hP hG c3 rfl [] [(1, 0), (2, 1), (3, 2)] 4 rfl rfl rfl rfl rfl rfl rfl rfl rfl rfl ?_
  refine tr_weak (w_freeze (d := 19) (k := 3) rfl rfl (.aggL (.cons (.refl _) (.cons (.refl _) (.cons (.s 0 true rfl) (.cons (.refl _) .nil)))))) ?_
  repeat' (first | refine goR rfl ?_ | refine goS rfl ?_ | refine tret1 rfl ?_ | refine tretN rfl ?_ | refine tr_guard_y rfl rfl ?_ | refine tr_guard_n rfl rfl ?_ | refine ts_cond_t rfl rfl ?_ | refine ts_cond_f rfl rfl ?_ | fail)
  refine loopS (fun m env σ => ∃ (i : Nat) (s : State), i ≤ mem.length ∧ m = mem.length - i ∧ stQ p s ∧ s.thr.length = p.threads.length ∧ s.bufs = [] ∧ s.lock = 0 ∧ env = [(1, rwI mem), (2, .lst 16 (thr.map cThr)), (3, rwI steps), (9, .p 3 0), (10, .p 0 0), (11, tI i)] ∧ σ = ⟨rfM s (.lst 1 []) 0 ++ [(3, .cells (cPrg p) ty_api_Prog)], 4⟩) mem.length ?_ ⟨0, start0 p, by omega, rfl, hq, hpl, rfl, rfl, rfl, rfl⟩ ?_
  · (refine w_ren [(0, 4), (1, 1), (2, 2), (3, 0)] rfl (by rw [hp]; decide) rfl ?_ ?_ <;> repeat' (first | exact .nil | exact .f _ rfl | exact .s _ _ _ _ _ _ rfl | exact .p _ _ _ rfl | exact .rows _ _ _ | exact .iter _ _ | exact RenL.nil _ | refine RenL.cons ?_ ?_ | refine .cells _ _ _ ?_ | refine .cons _ _ _ _ rfl ?_ ?_ | refine .cons _ _ _ _ _ rfl rfl ?_ ?_ | refine .rowsE ?_ | refine .sE rfl ?_ | exact .m _ _ rfl | refine .fE rfl ?_ | exact rnT_ok rfl | exact RenO.mapB _ | exact RenO.mapB [] | fail))
  rintro m env σ ⟨i, s, hi, rfl, sq, st, sb, sl, rfl, rfl⟩
  have sm := sq.len
  by_cases hlt : i < mem.length ∧ i < s.mem.length
  · have hx : mem[i]? = some mem[i] := List.getElem?_eq_getElem hlt.1
    obtain ⟨y, hy⟩ : ∃ y, (s.mem.map fun n => [tI n])[i]? = some [tI y] := ⟨s.mem[i], by rw [List.getElem?_map, List.getElem?_eq_getElem hlt.2]; rfl⟩
    generalize mem[i] = x at hx
    have hxr := hme x (List.mem_of_getElem? hx)
    repeat' (first | refine goR rfl ?_ | refine goS rfl ?_ | refine tret1 rfl ?_ | refine tretN rfl ?_ | refine tr_guard_y rfl rfl ?_ | refine tr_guard_n rfl rfl ?_ | refine ts_cond_t rfl rfl ?_ | refine ts_cond_f rfl rfl ?_ | refine tr_light (tl_ixm rfl rfl rfl hx) ?_ | refine tr_light (tl_ixo (m := i) rfl rfl rfl hlt.2) ?_ | refine tr_storeE rfl rfl hy rfl rfl rfl rfl rfl rfl ?_ | ((first | refine tg_split rfl (fun h => ?_) (fun h => ?_) | refine ts_cond rfl (fun h => ?_) (fun h => ?_)) <;> (try simp only [decide_eq_true_eq, decide_eq_false_iff_not, Bool.not_eq_true', Bool.not_eq_false', Bool.not_true, Bool.not_false, Bool.not_not, beq_iff_eq, Bool.not_eq_true, Bool.not_eq_false] at h) <;> try (exfalso; omega; done)) | fail)
    refine again (m' := mem.length - (i + 1)) (by omega) ?_ ⟨i + 1, { s with mem := s.mem.set i x }, by omega, rfl, ⟨(List.length_set ..).trans sq.len, sq.thr, set_in sq.mem hxr _⟩, st, sb, sl, rfl, rfl⟩
    (refine w_ren [(0, 0), (1, 1), (2, 2), (3, 3)] rfl (by rw [hp]; decide) rfl ?_ ?_ <;> repeat' (first | exact .nil | exact .f _ rfl | exact .s _ _ _ _ _ _ rfl | exact .p _ _ _ rfl | exact .rows _ _ _ | exact .iter _ _ | exact RenL.nil _ | refine RenL.cons ?_ ?_ | refine .cells _ _ _ ?_ | refine .cons _ _ _ _ rfl ?_ ?_ | refine .cons _ _ _ _ _ rfl rfl ?_ ?_ | refine .rowsE ?_ | refine .sE rfl ?_ | exact .m _ _ rfl | refine .fE rfl ?_ | exact rnT_ok rfl | exact RenO.mapB _ | exact RenO.mapB [] | fail))
    all_goals first | rfl | exact (List.length_set ..).symm | (rw [List.map_set]; done) | (rw [List.map_set]; rfl) | (rw [w64 (by omega)]; rfl) | skip
  · clear hq
    have key : True := trivial
    repeat' (first | refine goR rfl ?_ | refine goS rfl ?_ | refine tret1 rfl ?_ | refine tretN rfl ?_ | refine tr_guard_y rfl rfl ?_ | refine tr_guard_n rfl rfl ?_ | refine ts_cond_t rfl rfl ?_ | refine ts_cond_f rfl rfl ?_ | ((first | refine tg_split rfl (fun h => ?_) (fun h => ?_) | refine ts_cond rfl (fun h => ?_) (fun h => ?_)) <;> (try simp only [decide_eq_true_eq, decide_eq_false_iff_not, Bool.not_eq_true', Bool.not_eq_false', Bool.not_true, Bool.not_false, Bool.not_not, beq_iff_eq, Bool.not_eq_true, Bool.not_eq_false] at h) <;> try (exfalso; omega; done)) | fail)
    all_goals
      refine loopS (fun m env σ => ∃ (i : Nat) (s : State), i ≤ thr.length ∧ m = thr.length - i ∧ stQ p s ∧ s.thr.length = p.threads.length ∧ s.bufs = [] ∧ s.lock = 0 ∧ env = [(2, .lst 16 (thr.map cThr)), (3, rwI steps), (9, .p 3 0), (10, .p 0 0), (12, tI i)] ∧ σ = ⟨rfM s (.lst 1 []) 0 ++ [(3, .cells (cPrg p) ty_api_Prog)], 4⟩) thr.length ?_ ⟨0, s, by omega, rfl, sq, st, sb, sl, rfl, rfl⟩ ?_
      · (refine w_ren [(0, 0), (1, 1), (2, 2), (3, 3)] rfl (by rw [hp]; decide) rfl ?_ ?_ <;> repeat' (first | exact .nil | exact .f _ rfl | exact .s _ _ _ _ _ _ rfl | exact .p _ _ _ rfl | exact .rows _ _ _ | exact .iter _ _ | exact RenL.nil _ | refine RenL.cons ?_ ?_ | refine .cells _ _ _ ?_ | refine .cons _ _ _ _ rfl ?_ ?_ | refine .cons _ _ _ _ _ rfl rfl ?_ ?_ | refine .rowsE ?_ | refine .sE rfl ?_ | exact .m _ _ rfl | refine .fE rfl ?_ | exact rnT_ok rfl | exact RenO.mapB _ | exact RenO.mapB [] | fail))
      clear sq st sb sl sm hlt hi
      rintro m env σ ⟨i, s, hi, rfl, sq, st, sb, sl, rfl, rfl⟩
      have sm := sq.len
      by_cases hlt : i < thr.length ∧ i < s.thr.length
      · have hx : thr[i]? = some thr[i] := List.getElem?_eq_getElem hlt.1
        obtain ⟨y, hy⟩ : ∃ y, (s.thr.map cThr)[i]? = some (cThr y) := ⟨s.thr[i], by rw [List.getElem?_map, List.getElem?_eq_getElem hlt.2]; rfl⟩
        generalize thr[i] = x at hx
        obtain ⟨z, hz, c5⟩ := thr_ofQ x (hte x (List.mem_of_getElem? hx)) (decide ((i : Int) = 2))
        repeat' (first | refine goR rfl ?_ | refine goS rfl ?_ | refine tret1 rfl ?_ | refine tretN rfl ?_ | refine tr_guard_y rfl rfl ?_ | refine tr_guard_n rfl rfl ?_ | refine ts_cond_t rfl rfl ?_ | refine ts_cond_f rfl rfl ?_ | refine tr_light (tl_ixm rfl rfl rfl hx) ?_ | refine tr_callA rfl (by rw [hP]; exact c5 _) rfl ?_ | refine tr_light (tl_ixo (m := i) rfl rfl rfl hlt.2) ?_ | refine tr_storeE rfl rfl hy rfl rfl rfl rfl rfl rfl ?_ | ((first | refine tg_split rfl (fun h => ?_) (fun h => ?_) | refine ts_cond rfl (fun h => ?_) (fun h => ?_)) <;> (try simp only [decide_eq_true_eq, decide_eq_false_iff_not, Bool.not_eq_true', Bool.not_eq_false', Bool.not_true, Bool.not_false, Bool.not_not, beq_iff_eq, Bool.not_eq_true, Bool.not_eq_false] at h) <;> try (exfalso; omega; done)) | fail)
        refine again (m' := thr.length - (i + 1)) (by omega) ?_ ⟨i + 1, { s with thr := s.thr.set i z }, by omega, rfl, ⟨sq.len, set_in sq.thr hz _, sq.mem⟩, (List.length_set ..).trans st, sb, sl, rfl, rfl⟩
        (refine w_ren [(0, 0), (1, 1), (2, 2), (3, 3)] rfl (by rw [hp]; decide) rfl ?_ ?_ <;> repeat' (first | exact .nil | exact .f _ rfl | exact .s _ _ _ _ _ _ rfl | exact .p _ _ _ rfl | exact .rows _ _ _ | exact .iter _ _ | exact RenL.nil _ | refine RenL.cons ?_ ?_ | refine .cells _ _ _ ?_ | refine .cons _ _ _ _ rfl ?_ ?_ | refine .cons _ _ _ _ _ rfl rfl ?_ ?_ | refine .rowsE ?_ | refine .sE rfl ?_ | exact .m _ _ rfl | refine .fE rfl ?_ | exact rnT_ok rfl | exact RenO.mapB _ | exact RenO.mapB [] | fail))
        all_goals first | rfl | exact (List.length_set ..).symm | (rw [List.map_set]; done) | (rw [List.map_set]; rfl) | (rw [w64 (by omega)]; rfl) | skip
      · have hat : atS2 s = s := by
          cases s
          simp only at sb sl
          rw [atS2, sb, sl]
        have c6 := at_ownS p ho hc s sm st ⟨by omega, by omega⟩
        rw [hat] at c6
        have c7 := fun G => steps_own (G := G) steps (p.threads.map cTh).length 20 (by omega) (by decide)
        have hsl : (stepsF steps (p.threads.map cTh).length 20).length ≤ 20 := by rw [stepsF, List.length_map, List.length_take]; omega
        generalize stepsF steps (p.threads.map cTh).length 20 = row at c7 hsl
        have hsm : (row.map fun n => [tI n]).length = row.length := List.length_map ..
        repeat' (first | refine goR rfl ?_ | refine goS rfl ?_ | refine tret1 rfl ?_ | refine tretN rfl ?_ | refine tr_guard_y rfl rfl ?_ | refine tr_guard_n rfl rfl ?_ | refine ts_cond_t rfl rfl ?_ | refine ts_cond_f rfl rfl ?_ | refine tr_mcallD hP hG (c6) rfl [(0, 1), (1, 2)] [(1, 0), (2, 1), (6, 2), (7, 3), (8, 4)] 9 rfl rfl rfl rfl rfl rfl rfl rfl rfl rfl ?_ | ((first | refine tg_split rfl (fun h => ?_) (fun h => ?_) | refine ts_cond rfl (fun h => ?_) (fun h => ?_)) <;> (try simp only [decide_eq_true_eq, decide_eq_false_iff_not, Bool.not_eq_true', Bool.not_eq_false', Bool.not_true, Bool.not_false, Bool.not_not, beq_iff_eq, Bool.not_eq_true, Bool.not_eq_false] at h) <;> try (exfalso; omega; done)) | fail)
        all_goals
          refine tr_mcallD hP hG (c7 _) rfl [] [(9, 0)] 10 rfl rfl rfl rfl rfl rfl rfl rfl rfl rfl ?_
          refine tr_weak (w_freeze (d := 74) (k := 9) rfl rfl (.s _ true (by rw [List.length_map]))) ?_
          repeat' (first | refine goR rfl ?_ | refine goS rfl ?_ | refine tret1 rfl ?_ | refine tretN rfl ?_ | refine tr_guard_y rfl rfl ?_ | refine tr_guard_n rfl rfl ?_ | refine ts_cond_t rfl rfl ?_ | refine ts_cond_f rfl rfl ?_ | fail)
          refine loopS (fun m env σ => ∃ a b, row = a ++ b ∧ m = b.length ∧ env = [(9, .p 6 0), (10, .p 3 0), (13, .p 0 0), (14, rwI row), (15, tI a.length)] ∧ σ = ⟨scM p (runF p s a).1 0 ++ (rfM (runF p s a).1 (.lst 1 []) 3 ++ [(6, .cells (cPrg p) ty_api_Prog)]), 7⟩) row.length ?_ ⟨[], row, rfl, rfl, rfl, rfl⟩ ?_
          · (refine w_ren [(0, 6), (1, 7), (2, 8), (3, 0), (4, 1), (5, 2), (6, 3)] rfl (by rw [hp]; decide) rfl ?_ ?_ <;> repeat' (first | exact .nil | exact .f _ rfl | exact .s _ _ _ _ _ _ rfl | exact .p _ _ _ rfl | exact .rows _ _ _ | exact .iter _ _ | exact RenL.nil _ | refine RenL.cons ?_ ?_ | refine .cells _ _ _ ?_ | refine .cons _ _ _ _ rfl ?_ ?_ | refine .cons _ _ _ _ _ rfl rfl ?_ ?_ | refine .rowsE ?_ | refine .sE rfl ?_ | exact .m _ _ rfl | refine .fE rfl ?_ | exact rnT_ok rfl | exact RenO.mapB _ | exact RenO.mapB [] | fail))
          rintro m env σ ⟨a, b, e, rfl, rfl, rfl⟩
          have hla : row.length = a.length + b.length := by rw [e, List.length_append]
          cases b with
          | nil =>
            rw [List.length_nil] at hla
            repeat' (first | refine goR rfl ?_ | refine goS rfl ?_ | refine tret1 rfl ?_ | refine tretN rfl ?_ | refine tr_guard_y rfl rfl ?_ | refine tr_guard_n rfl rfl ?_ | refine ts_cond_t rfl rfl ?_ | refine ts_cond_f rfl rfl ?_ | refine ts_cond_f rfl (decide_eq_false (by omega)) ?_ | refine tr_callA rfl (by rw [hP, hG]; exact alive_spec) rfl ?_ | fail)
            exact .fr rfl
          | cons x b =>
            have hx : row[a.length]? = some x := by rw [e]; exact ix
            simp only [List.length_cons] at hla
            obtain ⟨e1, e2, e3, e4, _⟩ := runF_ok hn sq a
            have hs := runF_snoc p s a x
            generalize (runF p s a).2 = n at hs
            generalize (runF p s a).1 = u at hs e1 e2 e3 e4
            have c5 := step_own p ho hc u e1 (by omega) x
            have c6 := sc_own p ho hc u e1 (by omega) x
            obtain ⟨f1, f2, f3, f4⟩ := scW_ok hn e1 x
            have hok := stQ_okS hc f1 (f2.trans (e2.trans st)) (f3.trans (e3.trans sb))
            have c7 := state_own (G := Tabs) p (scW p u x).1 hok (f3.trans (e3.trans sb))
            have c8 := fun G => same_own (G := G) (scW p u x).1 hok (f3.trans (e3.trans sb))
            generalize (scW p u x).1 = s' at c5 c6 c7 c8 hs
            cases hb : (scW p u x).2
            all_goals
              rw [hb] at c5 c6
              repeat' (first | refine goR rfl ?_ | refine goS rfl ?_ | refine tret1 rfl ?_ | refine tretN rfl ?_ | refine tr_guard_y rfl rfl ?_ | refine tr_guard_n rfl rfl ?_ | refine ts_cond_t rfl rfl ?_ | refine ts_cond_f rfl rfl ?_ | refine ts_cond_t rfl (decide_eq_true (by omega)) ?_ | refine tr_light (tl_ixm rfl rfl rfl hx) ?_ | refine tr_mcallD hP hG (c5) rfl [(0, 0), (1, 1), (2, 2)] [(0, 0), (1, 1), (2, 2)] 10 rfl rfl rfl rfl rfl rfl rfl rfl rfl rfl ?_ | refine tr_mcallD hP hG (c6) rfl [(0, 3), (1, 4), (2, 5)] [(3, 0), (4, 1), (5, 2)] 13 rfl rfl rfl rfl rfl rfl rfl rfl rfl rfl ?_ | refine tr_light (tl_neb (by rw [hP]; exact ut_bool) rfl rfl) ?_ | refine tr_mcallD hP hG (c7) rfl [(0, 0), (1, 1), (2, 2)] [(0, 0), (1, 1), (2, 2), (16, 3), (17, 4)] 18 rfl rfl rfl rfl rfl rfl rfl rfl rfl rfl ?_ | refine tr_callL rfl (.cons (.aggL (.cons (.s 16 1 _ true _ _ rfl (by rw [List.length_map])) (.cons (.s 17 16 _ true _ _ rfl (by rw [List.length_map])) (.cons (.nil 1) (.cons (.fr rfl) .nil))))) (.cons (.aggL (.cons (.s 4 1 _ true _ _ rfl (by rw [List.length_map])) (.cons (.s 5 16 _ true _ _ rfl (by rw [List.length_map])) (.cons (.fr rfl) (.cons (.fr rfl) .nil))))) .nil)) (by rw [hP]; exact c8 _) rfl ?_ | fail)
              refine again (m' := b.length) (Nat.lt_succ_self _) ?_ ⟨a ++ [x], b, by rw [e]; simp, rfl, rfl, by rw [hs]⟩
              (refine w_ren [(0, 0), (1, 1), (2, 2), (3, 3), (4, 4), (5, 5), (6, 6)] rfl (by rw [hp]; decide) rfl ?_ ?_ <;> repeat' (first | exact .nil | exact .f _ rfl | exact .s _ _ _ _ _ _ rfl | exact .p _ _ _ rfl | exact .rows _ _ _ | exact .iter _ _ | exact RenL.nil _ | refine RenL.cons ?_ ?_ | refine .cells _ _ _ ?_ | refine .cons _ _ _ _ rfl ?_ ?_ | refine .cons _ _ _ _ _ rfl rfl ?_ ?_ | refine .rowsE ?_ | refine .sE rfl ?_ | exact .m _ _ rfl | refine .fE rfl ?_ | exact rnT_ok rfl | exact RenO.mapB _ | exact RenO.mapB [] | fail))
              all_goals (rw [w64 (by omega), List.length_append, List.length_singleton]; rfl)
end
end Go.Proofs.YtfimjmkhmfnaeaaGreatDoor
