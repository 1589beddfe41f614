/-
  Walks of functions of the program, and what the laws need of them.
-/
import Derived.Test.YtfimjmkhmfnaeaaDoorRPK
set_option linter.all false
set_option linter.unusedSimpArgs false
set_option linter.unusedVariables false
set_option linter.unnecessarySimpa false
namespace Go.Proofs.YtfimjmkhmfnaeaaDoor
set_option maxRecDepth 20000
open Go Go.Proofs.YtfimjmkhmfnaeaaDoor.V Go.Proofs
def bufG (b : List Entry) : Bool := decide (12 < b.length)
def greatS (s : State) : Bool := if 30 < s.mem.length ∨ 8 < s.thr.length ∨ 8 < s.bufs.length then true else s.bufs.any bufG
def atS (s : State) : State := ⟨s.mem, s.thr, [], 0⟩
def stB (s : State) (B : TV) : List TV := [rwI s.mem, .lst 16 (s.thr.map cThr), B, tI s.lock]
section
attribute [local irreducible] TwS TwR thenT inBlockT retT nextW localW loadedW swapW scW
variable {G : World → Prop}
theorem greatS_spec (s : State) : Pure prog G n_book_GreatState [.agg (cState s)] (tB (greatS s)) := by
  have e1 : (s.mem.map fun n => [tI n]).length = s.mem.length := List.length_map ..
  have e2 : (s.thr.map cThr).length = s.thr.length := List.length_map ..
  have e3 : (s.bufs.map cBuf).length = s.bufs.length := List.length_map ..
  refine Pure.of mixedOk (fn := f_book_GreatState) (by kernel_rfl) (by kernel_rfl) ok_book_GreatState rfl fun C hP hG hp => goF ?_
  simp only [fs_book_GreatState, targEnv, Nat.zero_add, Nat.reduceAdd]
  by_cases hb : 30 < s.mem.length ∨ 8 < s.thr.length ∨ 8 < s.bufs.length
  · rw [greatS, if_pos hb]
    repeat' (first | refine goR rfl ?_ | refine goS rfl ?_ | refine tret1 rfl ?_ | refine tretN rfl ?_ | refine tr_guard_y rfl rfl ?_ | refine tr_guard_n rfl rfl ?_ | refine ts_cond_t rfl rfl ?_ | refine ts_cond_f rfl rfl ?_ | ((first | refine tg_split rfl (fun h => ?_) (fun h => ?_) | refine ts_cond rfl (fun h => ?_) (fun h => ?_)) <;> (try simp only [decide_eq_true_eq, decide_eq_false_iff_not, Bool.not_eq_true', Bool.not_eq_false', Bool.not_true, Bool.not_false, Bool.not_not, beq_iff_eq, Bool.not_eq_true, Bool.not_eq_false] at h) <;> try (exfalso; omega; done)) | fail)
    all_goals exact .fr rfl
  rw [greatS, if_neg hb]
  repeat' (first | refine goR rfl ?_ | refine goS rfl ?_ | refine tret1 rfl ?_ | refine tretN rfl ?_ | refine tr_guard_y rfl rfl ?_ | refine tr_guard_n rfl rfl ?_ | refine ts_cond_t rfl rfl ?_ | refine ts_cond_f rfl rfl ?_ | ((first | refine tg_split rfl (fun h => ?_) (fun h => ?_) | refine ts_cond rfl (fun h => ?_) (fun h => ?_)) <;> (try simp only [decide_eq_true_eq, decide_eq_false_iff_not, Bool.not_eq_true', Bool.not_eq_false', Bool.not_true, Bool.not_false, Bool.not_not, beq_iff_eq, Bool.not_eq_true, Bool.not_eq_false] at h) <;> try (exfalso; omega; done)) | fail)
  refine loopS (fun m env σ => ∃ a b, s.bufs = a ++ b ∧ m = b.length ∧ s.bufs.any bufG = b.any bufG ∧ env = [(1, .p 0 0), (3, tI a.length)] ∧ σ = ⟨[(0, .cells (cState s) ty_api_State)], 1⟩) s.bufs.length ?_ ⟨[], s.bufs, rfl, rfl, rfl, rfl, rfl⟩ ?_
  · (refine w_ren [(0, 0)] rfl (by rw [hp]; intro j hj; cases hj) rfl ?_ ?_ <;> repeat' (first | exact .nil | exact .f _ rfl | exact .s _ _ _ _ _ _ rfl | exact .p _ _ _ rfl | exact .rows _ _ _ | exact .iter _ _ | exact RenL.nil _ | refine RenL.cons ?_ ?_ | refine .cells _ _ _ ?_ | refine .cons _ _ _ _ rfl ?_ ?_ | refine .cons _ _ _ _ _ rfl rfl ?_ ?_ | refine .rowsE ?_ | refine .sE rfl ?_ | exact .m _ _ rfl | refine .fE rfl ?_ | exact RenO.mapB _ | exact RenO.mapB [] | fail))
  rintro m env σ ⟨a, b, e, rfl, hI, rfl, rfl⟩
  have hla : s.bufs.length = a.length + b.length := by rw [e, List.length_append]
  cases b with
  | nil =>
    rw [List.length_nil] at hla
    repeat' (first | refine goR rfl ?_ | refine goS rfl ?_ | refine tret1 rfl ?_ | refine tretN rfl ?_ | refine tr_guard_y rfl rfl ?_ | refine tr_guard_n rfl rfl ?_ | refine ts_cond_t rfl rfl ?_ | refine ts_cond_f rfl rfl ?_ | refine ts_cond_f rfl (decide_eq_false (by rw [List.length_map]; omega)) ?_ | fail)
    rw [hI]
    exact .fr rfl
  | cons x b =>
    have hx : s.bufs[a.length]? = some x := by rw [e]; exact ix
    simp only [List.length_cons] at hla
    simp only [List.any_cons] at hI
    have hxl : (x.map cEntry).length = x.length := List.length_map ..
    repeat' (first | refine goR rfl ?_ | refine goS rfl ?_ | refine tret1 rfl ?_ | refine tretN rfl ?_ | refine tr_guard_y rfl rfl ?_ | refine tr_guard_n rfl rfl ?_ | refine ts_cond_t rfl rfl ?_ | refine ts_cond_f rfl rfl ?_ | refine ts_cond_t rfl (decide_eq_true (by rw [List.length_map]; omega)) ?_ | refine tr_light (tl_ixm rfl rfl rfl hx) ?_ | ((first | refine tg_split rfl (fun h => ?_) (fun h => ?_) | refine ts_cond rfl (fun h => ?_) (fun h => ?_)) <;> try simp only [decide_eq_true_eq, decide_eq_false_iff_not, Bool.not_eq_true', Bool.not_eq_false', Bool.not_true, Bool.not_false, Bool.not_not, beq_iff_eq, Bool.not_eq_true, Bool.not_eq_false] at h) | fail)
    · have : s.bufs.any bufG = true := by rw [hI, bufG, decide_eq_true (by omega), Bool.true_or]
      rw [this]
      exact .fr rfl
    · refine again (m' := b.length) (Nat.lt_succ_self _) ?_ ⟨a ++ [x], b, by rw [e]; simp, rfl, by rw [hI, bufG, decide_eq_false (by omega), Bool.false_or], rfl, rfl⟩
      (refine w_ren [(0, 0)] rfl (by rw [hp]; intro j hj; cases hj) rfl ?_ ?_ <;> repeat' (first | exact .nil | exact .f _ rfl | exact .s _ _ _ _ _ _ rfl | exact .p _ _ _ rfl | exact .rows _ _ _ | exact .iter _ _ | exact RenL.nil _ | refine RenL.cons ?_ ?_ | refine .cells _ _ _ ?_ | refine .cons _ _ _ _ rfl ?_ ?_ | refine .cons _ _ _ _ _ rfl rfl ?_ ?_ | refine .rowsE ?_ | refine .sE rfl ?_ | exact .m _ _ rfl | refine .fE rfl ?_ | exact RenO.mapB _ | exact RenO.mapB [] | fail))
      all_goals first | rfl | (rw [w64 (by omega), List.length_append, List.length_singleton]; rfl) | (rw [List.length_append]; rfl) | (rw [List.map_append]; rfl) | rw [List.length_map] | rw [List.append_nil] | skip
theorem size_spec (p : Prg) (ho : okP p) (hc : checkC p = 0) : Pure prog Tabs n_ref2_Size [.agg (cPrg p)] (tI ((startF p.syms).length : Nat)) := by
  have c1 := check_spec2 p ho
  rw [hc] at c1
  have hl : (p.syms.map cSym).length = p.syms.length := List.length_map ..
  have c2 : ∀ G, Pure prog G n_ref2_base [.agg (cPrg p), tI ((p.syms.map cSym).length : Nat)] (tI ((startF p.syms).length : Nat)) := fun G => by
    have := base_spec (G := G) p hc p.syms.length (Nat.le_refl _)
    rw [hl]
    rwa [show baseN p.syms p.syms.length = ((startF p.syms).length : Nat) by rw [startF_sum _ (check_syms hc).2.2.1, baseN, List.take_length]] at this
  refine Pure.of mixedOk (fn := f_ref2_Size) (by kernel_rfl) (by kernel_rfl) ok_ref2_Size rfl fun C hP hG hp => goF ?_
  simp only [fs_ref2_Size, targEnv, Nat.zero_add, Nat.reduceAdd]
  repeat' (first | refine goR rfl ?_ | refine goS rfl ?_ | refine tret1 rfl ?_ | refine tretN rfl ?_ | refine tr_guard_y rfl rfl ?_ | refine tr_guard_n rfl rfl ?_ | refine ts_cond_t rfl rfl ?_ | refine ts_cond_f rfl rfl ?_ | refine tr_callA rfl (by rw [hP, hG]; exact c1) rfl ?_ | refine tr_callA rfl (by rw [hP]; exact c2 _) rfl ?_ | fail)
  exact .fr rfl
theorem at_own (p : Prg) (ho : okP p) (hc : checkC p = 0) (s : State) (B : TV) (hB : B = .v (.slice none 0 0) ∨ ∃ l : List (List Entry), B = .lst 1 (l.map cBuf)) (hm : s.mem.length = (startF p.syms).length) (ht : s.thr.length = p.threads.length) (hb : s.mem.length ≤ 1000000000 ∧ s.thr.length ≤ 1000000000) :
    TC prog Tabs n_sc_At [.agg (cPrg p), .agg (stB s B)] ⟨[], 0⟩ [] (fun r σ' => r = .p 0 0 ∧ σ' = ⟨scM p (atS s) 0, 3⟩) := by
  have c1 := new_own p ho hc (start_okS hc) rfl
  have c2 := copySt_own (G := Tabs) (atS s) ⟨hb.1, hb.2, Nat.zero_le _, fun l h => by cases h⟩ rfl
  rw [show cState (atS s) = [rwI s.mem, .lst 16 (s.thr.map cThr), .lst 1 [], tI 0] from rfl] at c2
  have e1 : (s.mem.map fun n => [tI n]).length = s.mem.length := List.length_map ..
  have e2 : (s.thr.map cThr).length = s.thr.length := List.length_map ..
  have e3 : (start0 p).mem.length = s.mem.length := hm.symm
  have e4 : (start0 p).thr.length = s.thr.length := (List.length_replicate ..).trans ht.symm
  generalize start0 p = s0 at c1 e3 e4
  refine TC.of mixedOk (fn := f_sc_At) (by kernel_rfl) (by kernel_rfl) ok_sc_At rfl fun C hP hG hp => goF ?_
  simp only [fs_sc_At, targEnv, Nat.zero_add, Nat.reduceAdd]
  rcases hB with rfl | ⟨bl, rfl⟩
  all_goals
    repeat' (first | refine goR rfl ?_ | refine goS rfl ?_ | refine tret1 rfl ?_ | refine tretN rfl ?_ | refine tr_guard_y rfl rfl ?_ | refine tr_guard_n rfl rfl ?_ | refine ts_cond_t rfl rfl ?_ | refine ts_cond_f rfl rfl ?_ | refine tr_mcallD hP hG (c1) rfl [] [(2, 0), (3, 1), (4, 2)] 5 rfl rfl rfl rfl rfl rfl rfl rfl rfl rfl ?_ | refine tr_mcallF hP hG c2 rfl (.cons (.aggL (.cons (.fr rfl) (.cons (.fr rfl) (.cons (.nil 1) (.cons (.fr rfl) .nil))))) .nil) rfl rfl rfl rfl (selfS_cons (self_rows (fun _ => rfl) _ _ _) (selfS_cons (self_rows (fun _ => rfl) _ _ _) selfS_nil)) ?_ | ((first | refine tg_split rfl (fun h => ?_) (fun h => ?_) | refine ts_cond rfl (fun h => ?_) (fun h => ?_)) <;> (try simp only [decide_eq_true_eq, decide_eq_false_iff_not, Bool.not_eq_true', Bool.not_eq_false', Bool.not_true, Bool.not_false, Bool.not_not, beq_iff_eq, Bool.not_eq_true, Bool.not_eq_false] at h) <;> try (exfalso; omega; done)) | fail)
    refine twret rfl ?_ ⟨rfl, rfl⟩
    (refine w_ren [(0, 2), (1, 5), (2, 6)] rfl (by rw [hp]; decide) rfl ?_ ?_ <;> repeat' (first | exact .nil | exact .f _ rfl | exact .s _ _ _ _ _ _ rfl | exact .p _ _ _ rfl | exact .rows _ _ _ | exact .iter _ _ | exact RenL.nil _ | refine RenL.cons ?_ ?_ | refine .cells _ _ _ ?_ | refine .cons _ _ _ _ rfl ?_ ?_ | refine .cons _ _ _ _ _ rfl rfl ?_ ?_ | refine .rowsE ?_ | refine .sE rfl ?_ | exact .m _ _ rfl | refine .fE rfl ?_ | exact rnT_ok rfl | exact RenO.mapB _ | exact RenO.mapB [] | fail))
theorem at_no (p : Prg) (ho : okP p) (hc : checkC p = 0) (s : State) (hm : ¬ (s.mem.length = (startF p.syms).length ∧ s.thr.length = p.threads.length)) : Pure prog Tabs n_sc_At [.agg (cPrg p), .agg (cState s)] (.v (.pointer none)) := by
  have c1 := new_own p ho hc (start_okS hc) rfl
  have e1 : (s.mem.map fun n => [tI n]).length = s.mem.length := List.length_map ..
  have e2 : (s.thr.map cThr).length = s.thr.length := List.length_map ..
  have e3 : (start0 p).mem.length = (startF p.syms).length := rfl
  have e4 : (start0 p).thr.length = p.threads.length := List.length_replicate ..
  generalize start0 p = s0 at c1 e3 e4
  refine Pure.of mixedOk (fn := f_sc_At) (by kernel_rfl) (by kernel_rfl) ok_sc_At rfl fun C hP hG hp => goF ?_
  simp only [fs_sc_At, targEnv, Nat.zero_add, Nat.reduceAdd]
  repeat' (first | refine goR rfl ?_ | refine goS rfl ?_ | refine tret1 rfl ?_ | refine tretN rfl ?_ | refine tr_guard_y rfl rfl ?_ | refine tr_guard_n rfl rfl ?_ | refine ts_cond_t rfl rfl ?_ | refine ts_cond_f rfl rfl ?_ | refine tr_mcallD hP hG (c1) rfl [] [(2, 0), (3, 1), (4, 2)] 5 rfl rfl rfl rfl rfl rfl rfl rfl rfl rfl ?_ | ((first | refine tg_split rfl (fun h => ?_) (fun h => ?_) | refine ts_cond rfl (fun h => ?_) (fun h => ?_)) <;> (try simp only [decide_eq_true_eq, decide_eq_false_iff_not, Bool.not_eq_true', Bool.not_eq_false', Bool.not_true, Bool.not_false, Bool.not_not, beq_iff_eq, Bool.not_eq_true, Bool.not_eq_false] at h) <;> try (exfalso; omega; done)) | fail)
  all_goals exact .fr rfl
end
end Go.Proofs.YtfimjmkhmfnaeaaDoor
namespace Go.Proofs.YtfimjmkhmfnaeaaDoor
set_option maxRecDepth 20000
open Go Go.Proofs.YtfimjmkhmfnaeaaDoor.V Go.Proofs
theorem at_self {s : State} (hb : s.bufs = []) (hl : s.lock = 0) : atS s = s := by
  cases s
  simp only at hb hl
  rw [atS, hb, hl]
section
attribute [local irreducible] TwS TwR thenT inBlockT retT nextW localW loadedW swapW scW
set_option maxHeartbeats 1000000 in
theorem scAt (l : List (List Act)) (hl : ∀ r ∈ l, ∀ a ∈ r, inR a.n) (steps : List Int) (s : State) : Pure prog Tabs n_law_ScAt [cActs l, rwI steps, .agg (cState s)] (tB true) := by
  obtain ⟨p, ho, hc, hn, c1, h3, hq, _⟩ := book_sc l hl
  have hth : (p.threads.map cTh).length = p.threads.length := List.length_map ..
  have hpl : (start0 p).thr.length = p.threads.length := List.length_replicate ..
  have c2 := new_own p ho hc (start_okS hc) rfl
  have g1 := fun G => greatS_spec (G := G) s
  refine Pure.of mixedOk (fn := f_law_ScAt) (by kernel_rfl) (by kernel_rfl) ok_law_ScAt rfl fun C hP hG hp => goF ?_
  simp only [fs_law_ScAt, targEnv, Nat.zero_add, Nat.reduceAdd]
  cases hg : greatS s with
  | true =>
    rw [hg] at g1
    repeat' (first | refine goR rfl ?_ | refine goS rfl ?_ | refine tret1 rfl ?_ | refine tretN rfl ?_ | refine tr_guard_y rfl rfl ?_ | refine tr_guard_n rfl rfl ?_ | refine ts_cond_t rfl rfl ?_ | refine ts_cond_f rfl rfl ?_ | refine tr_callA rfl (by rw [hP]; exact c1 _) rfl ?_ | refine tr_mcallD hP hG (c2) rfl [] [(2, 0), (3, 1), (4, 2)] 5 rfl rfl rfl rfl rfl rfl rfl rfl rfl rfl ?_ | refine tr_callA rfl (by rw [hP]; exact g1 _) rfl ?_ | refine tr_callA rfl (by rw [hP, hG]; exact alive_spec) rfl ?_ | fail)
    exact .fr rfl
  | false =>
    rw [hg] at g1
    have c3 := fun G => steps_own (G := G) steps (p.threads.map cTh).length 60 (by omega) (by decide)
    have hsl : (stepsF steps (p.threads.map cTh).length 60).length ≤ 60 := by rw [stepsF, List.length_map, List.length_take]; omega
    generalize stepsF steps (p.threads.map cTh).length 60 = st at c3 hsl
    have hsm : (st.map fun n => [tI n]).length = st.length := List.length_map ..
    obtain ⟨half, hh⟩ : ∃ half : Nat, half = st.length / 2 := ⟨_, rfl⟩
    have eh : IntKind.i64.wrap (((st.map fun n => [tI n]).length : Int).tdiv ((1 + 1 : Nat) : Int)) = (half : Int) := by
      rw [Int.tdiv_eq_ediv_of_nonneg (by omega), w64 (by omega), hsm, hh]; rfl
    have c4 := run_own p ho hc hn (start0 p) hq (by omega) (st.take half) (by rw [List.length_take]; omega)
    obtain ⟨e1, e2, e3, e4, _⟩ := runF_ok hn hq (st.take half)
    have hok := stQ_okS hc e1 (e2.trans hpl) e3
    generalize (runF p (start0 p) (st.take half)).2 = n1 at c4
    generalize (runF p (start0 p) (st.take half)).1 = s1 at c4 e1 e2 e3 e4 hok
    have c5 := state_own (G := Tabs) p s1 hok e3
    have c6 := at_own p ho hc s1 (.v (.slice none 0 0)) (.inl rfl) e1.len (e2.trans hpl) ⟨hok.1, hok.2.1⟩
    rw [at_self e3 e4] at c6
    have c7 := fun G => same_own (G := G) s1 hok e3
    have c8 := run_own p ho hc hn s1 e1 (by omega) (st.drop half) (by rw [List.length_drop]; omega)
    obtain ⟨f1, f2, f3, f4, _⟩ := runF_ok hn e1 (st.drop half)
    have fok := stQ_okS hc f1 (f2.trans (e2.trans hpl)) (f3.trans e3)
    generalize (runF p s1 (st.drop half)).2 = n2 at c8
    generalize (runF p s1 (st.drop half)).1 = s2 at c8 f1 f2 f3 f4 fok
    have c9 := size_spec p ho hc
    have c10 := state_own (G := Tabs) p s2 fok (f3.trans e3)
    have c11 := fun G => same_own (G := G) s2 fok (f3.trans e3)
    have hsl1 : ((st.map fun n => [tI n]).drop ((none : Option Int).getD 0).toNat).take (((some (IntKind.i64.wrap (((st.map fun n => [tI n]).length : Int).tdiv ((1 + 1 : Nat) : Int)))).getD (st.map fun n => [tI n]).length).toNat - ((none : Option Int).getD 0).toNat) = (st.take half).map fun n => [tI n] := by
      rw [Option.getD_some, eh]
      simp [List.map_take]
    have hsl2 : ((st.map fun n => [tI n]).drop ((some (IntKind.i64.wrap (((st.map fun n => [tI n]).length : Int).tdiv ((1 + 1 : Nat) : Int)))).getD 0).toNat).take (((none : Option Int).getD (st.map fun n => [tI n]).length).toNat - ((some (IntKind.i64.wrap (((st.map fun n => [tI n]).length : Int).tdiv ((1 + 1 : Nat) : Int)))).getD 0).toNat) = (st.drop half).map fun n => [tI n] := by
      rw [Option.getD_some, eh]
      simp [List.map_drop, List.take_of_length_le]
    have m1 : (s.mem.map fun n => [tI n]).length = s.mem.length := List.length_map ..
    have m2 : (s.thr.map cThr).length = s.thr.length := List.length_map ..
    repeat' (first | refine goR rfl ?_ | refine goS rfl ?_ | refine tret1 rfl ?_ | refine tretN rfl ?_ | refine tr_guard_y rfl rfl ?_ | refine tr_guard_n rfl rfl ?_ | refine ts_cond_t rfl rfl ?_ | refine ts_cond_f rfl rfl ?_ | refine tr_callA rfl (by rw [hP]; exact c1 _) rfl ?_ | refine tr_mcallD hP hG (c2) rfl [] [(2, 0), (3, 1), (4, 2)] 5 rfl rfl rfl rfl rfl rfl rfl rfl rfl rfl ?_ | refine tr_callA rfl (by rw [hP]; exact g1 _) rfl ?_ | fail)
    refine tr_mcallD hP hG (c3 _) rfl [] [(5, 0)] 6 rfl rfl rfl rfl rfl rfl rfl rfl rfl rfl ?_
    refine tr_weak (w_freeze (d := 32) (k := 5) rfl rfl (.s _ true (by rw [List.length_map]))) ?_
    repeat' (first | refine goR rfl ?_ | refine goS rfl ?_ | refine tret1 rfl ?_ | refine tretN rfl ?_ | refine tr_guard_y rfl rfl ?_ | refine tr_guard_n rfl rfl ?_ | refine ts_cond_t rfl rfl ?_ | refine ts_cond_f rfl rfl ?_ | refine tr_light (tl_slc (r := (st.take half).map fun n => [tI n]) rfl rfl rfl ⟨by simp only [Option.getD_none]; omega, by simp only [Option.getD_some, Option.getD_none]; omega, by simp only [Option.getD_some]; omega⟩ hsl1) ?_ | refine tr_mcallD hP hG (c4) rfl [(0, 2), (1, 3), (2, 4)] [(2, 0), (3, 1), (4, 2)] 9 rfl rfl rfl rfl rfl rfl rfl rfl rfl rfl ?_ | refine tr_mcallD hP hG (c5) rfl [(0, 2), (1, 3), (2, 4)] [(2, 0), (3, 1), (4, 2), (12, 3), (13, 4)] 14 rfl rfl rfl rfl rfl rfl rfl rfl rfl rfl ?_ | fail)
    refine tr_weak ((w_freeze (d := 43) (k := 12) rfl rfl (.aggL (.cons (.s _ true (by rw [List.length_map])) (.cons (.refl _) (.cons (.refl _) (.cons (.refl _) .nil)))))).trans (w_freeze (d := 43) (k := 13) rfl rfl (.aggL (.cons (.refl _) (.cons (.s _ true (by rw [List.length_map])) (.cons (.refl _) (.cons (.refl _) .nil))))))) ?_
    have hgs : s.mem.length ≤ 30 ∧ s.thr.length ≤ 8 := by
      unfold greatS at hg
      split at hg
      · cases hg
      · omega
    by_cases h1 : s.mem.length = (startF p.syms).length
    · by_cases h2 : s.thr.length = p.threads.length
      · have c12 := at_own p ho hc s (.lst 1 (s.bufs.map cBuf)) (.inr ⟨_, rfl⟩) h1 h2 ⟨by omega, by omega⟩
        have hd : decide (((s.thr.map cThr).length : Int) = ((p.threads.map cTh).length : Int)) = true := decide_eq_true (by omega)
        repeat' (first | refine goR rfl ?_ | refine goS rfl ?_ | refine tret1 rfl ?_ | refine tretN rfl ?_ | refine tr_guard_y rfl rfl ?_ | refine tr_guard_n rfl rfl ?_ | refine ts_cond_t rfl rfl ?_ | refine ts_cond_f rfl rfl ?_ | refine tr_mcallD hP hG (c6) rfl [] [(14, 0), (15, 1), (16, 2)] 17 rfl rfl rfl rfl rfl rfl rfl rfl rfl rfl ?_ | refine tr_mcallD hP hG (c5) rfl [(0, 2), (1, 3), (2, 4)] [(2, 0), (3, 1), (4, 2), (20, 3), (21, 4)] 22 rfl rfl rfl rfl rfl rfl rfl rfl rfl rfl ?_ | refine tr_mcallD hP hG (c5) rfl [(0, 14), (1, 15), (2, 16)] [(14, 0), (15, 1), (16, 2), (25, 3), (26, 4)] 27 rfl rfl rfl rfl rfl rfl rfl rfl rfl rfl ?_ | refine tr_callL rfl (.cons (.aggL (.cons (.s 20 1 _ true _ _ rfl (by rw [List.length_map])) (.cons (.s 21 16 _ true _ _ rfl (by rw [List.length_map])) (.cons (.nil 1) (.cons (.fr rfl) .nil))))) (.cons (.aggL (.cons (.s 25 1 _ true _ _ rfl (by rw [List.length_map])) (.cons (.s 26 16 _ true _ _ rfl (by rw [List.length_map])) (.cons (.nil 1) (.cons (.fr rfl) .nil))))) .nil)) (by rw [hP]; exact c7 _) rfl ?_ | fail)
        repeat' (first | refine goR rfl ?_ | refine goS rfl ?_ | refine tret1 rfl ?_ | refine tretN rfl ?_ | refine tr_guard_y rfl rfl ?_ | refine tr_guard_n rfl rfl ?_ | refine ts_cond_t rfl rfl ?_ | refine ts_cond_f rfl rfl ?_ | refine tr_light (tl_slc (r := (st.drop half).map fun n => [tI n]) rfl rfl rfl ⟨by simp only [Option.getD_some]; omega, by simp only [Option.getD_some, Option.getD_none]; omega, by simp only [Option.getD_none]; omega⟩ hsl2) ?_ | refine tr_mcallD hP hG (c8) rfl [(0, 2), (1, 3), (2, 4)] [(2, 0), (3, 1), (4, 2)] 30 rfl rfl rfl rfl rfl rfl rfl rfl rfl rfl ?_ | refine tr_mcallD hP hG (c8) rfl [(0, 14), (1, 15), (2, 16)] [(14, 0), (15, 1), (16, 2)] 33 rfl rfl rfl rfl rfl rfl rfl rfl rfl rfl ?_ | refine tr_callA rfl (by rw [hP, hG]; exact c9) rfl ?_ | refine tr_mcallD hP hG (c10) rfl [(0, 2), (1, 3), (2, 4)] [(2, 0), (3, 1), (4, 2), (36, 3), (37, 4)] 38 rfl rfl rfl rfl rfl rfl rfl rfl rfl rfl ?_ | refine tr_mcallD hP hG (c10) rfl [(0, 14), (1, 15), (2, 16)] [(14, 0), (15, 1), (16, 2), (41, 3), (42, 4)] 43 rfl rfl rfl rfl rfl rfl rfl rfl rfl rfl ?_ | refine tr_callL rfl (.cons (.aggL (.cons (.s 36 1 _ true _ _ rfl (by rw [List.length_map])) (.cons (.s 37 16 _ true _ _ rfl (by rw [List.length_map])) (.cons (.nil 1) (.cons (.fr rfl) .nil))))) (.cons (.aggL (.cons (.s 41 1 _ true _ _ rfl (by rw [List.length_map])) (.cons (.s 42 16 _ true _ _ rfl (by rw [List.length_map])) (.cons (.nil 1) (.cons (.fr rfl) .nil))))) .nil)) (by rw [hP]; exact c11 _) rfl ?_ | refine tr_mcallD hP hG (c12) rfl [] [(43, 0), (44, 1), (45, 2)] 46 rfl rfl rfl rfl rfl rfl rfl rfl rfl rfl ?_ | (refine tr_light (tl_eqb (by rw [hP]; exact ut_bool) rfl rfl) ?_; first | rw [hd] | skip) | refine tr_callA rfl (by rw [hP, hG]; exact alive_spec) rfl ?_ | ((first | refine tg_split rfl (fun h => ?_) (fun h => ?_) | refine ts_cond rfl (fun h => ?_) (fun h => ?_)) <;> (try simp only [decide_eq_true_eq, decide_eq_false_iff_not, Bool.not_eq_true', Bool.not_eq_false', Bool.not_true, Bool.not_false, Bool.not_not, beq_iff_eq, Bool.not_eq_true, Bool.not_eq_false] at h) <;> try (exfalso; omega; done)) | fail)
        exact .fr rfl
      · have c12 := at_no p ho hc s (fun h => h2 h.2)
        have hd : decide (((s.thr.map cThr).length : Int) = ((p.threads.map cTh).length : Int)) = false := decide_eq_false (by omega)
        repeat' (first | refine goR rfl ?_ | refine goS rfl ?_ | refine tret1 rfl ?_ | refine tretN rfl ?_ | refine tr_guard_y rfl rfl ?_ | refine tr_guard_n rfl rfl ?_ | refine ts_cond_t rfl rfl ?_ | refine ts_cond_f rfl rfl ?_ | refine tr_mcallD hP hG (c6) rfl [] [(14, 0), (15, 1), (16, 2)] 17 rfl rfl rfl rfl rfl rfl rfl rfl rfl rfl ?_ | refine tr_mcallD hP hG (c5) rfl [(0, 2), (1, 3), (2, 4)] [(2, 0), (3, 1), (4, 2), (20, 3), (21, 4)] 22 rfl rfl rfl rfl rfl rfl rfl rfl rfl rfl ?_ | refine tr_mcallD hP hG (c5) rfl [(0, 14), (1, 15), (2, 16)] [(14, 0), (15, 1), (16, 2), (25, 3), (26, 4)] 27 rfl rfl rfl rfl rfl rfl rfl rfl rfl rfl ?_ | refine tr_callL rfl (.cons (.aggL (.cons (.s 20 1 _ true _ _ rfl (by rw [List.length_map])) (.cons (.s 21 16 _ true _ _ rfl (by rw [List.length_map])) (.cons (.nil 1) (.cons (.fr rfl) .nil))))) (.cons (.aggL (.cons (.s 25 1 _ true _ _ rfl (by rw [List.length_map])) (.cons (.s 26 16 _ true _ _ rfl (by rw [List.length_map])) (.cons (.nil 1) (.cons (.fr rfl) .nil))))) .nil)) (by rw [hP]; exact c7 _) rfl ?_ | fail)
        repeat' (first | refine goR rfl ?_ | refine goS rfl ?_ | refine tret1 rfl ?_ | refine tretN rfl ?_ | refine tr_guard_y rfl rfl ?_ | refine tr_guard_n rfl rfl ?_ | refine ts_cond_t rfl rfl ?_ | refine ts_cond_f rfl rfl ?_ | refine tr_light (tl_slc (r := (st.drop half).map fun n => [tI n]) rfl rfl rfl ⟨by simp only [Option.getD_some]; omega, by simp only [Option.getD_some, Option.getD_none]; omega, by simp only [Option.getD_none]; omega⟩ hsl2) ?_ | refine tr_mcallD hP hG (c8) rfl [(0, 2), (1, 3), (2, 4)] [(2, 0), (3, 1), (4, 2)] 30 rfl rfl rfl rfl rfl rfl rfl rfl rfl rfl ?_ | refine tr_mcallD hP hG (c8) rfl [(0, 14), (1, 15), (2, 16)] [(14, 0), (15, 1), (16, 2)] 33 rfl rfl rfl rfl rfl rfl rfl rfl rfl rfl ?_ | refine tr_callA rfl (by rw [hP, hG]; exact c9) rfl ?_ | refine tr_mcallD hP hG (c10) rfl [(0, 2), (1, 3), (2, 4)] [(2, 0), (3, 1), (4, 2), (36, 3), (37, 4)] 38 rfl rfl rfl rfl rfl rfl rfl rfl rfl rfl ?_ | refine tr_mcallD hP hG (c10) rfl [(0, 14), (1, 15), (2, 16)] [(14, 0), (15, 1), (16, 2), (41, 3), (42, 4)] 43 rfl rfl rfl rfl rfl rfl rfl rfl rfl rfl ?_ | refine tr_callL rfl (.cons (.aggL (.cons (.s 36 1 _ true _ _ rfl (by rw [List.length_map])) (.cons (.s 37 16 _ true _ _ rfl (by rw [List.length_map])) (.cons (.nil 1) (.cons (.fr rfl) .nil))))) (.cons (.aggL (.cons (.s 41 1 _ true _ _ rfl (by rw [List.length_map])) (.cons (.s 42 16 _ true _ _ rfl (by rw [List.length_map])) (.cons (.nil 1) (.cons (.fr rfl) .nil))))) .nil)) (by rw [hP]; exact c11 _) rfl ?_ | refine tr_callA rfl (by rw [hP, hG]; exact c12) rfl ?_ | (refine tr_light (tl_eqb (by rw [hP]; exact ut_bool) rfl rfl) ?_; first | rw [hd] | skip) | refine tr_callA rfl (by rw [hP, hG]; exact alive_spec) rfl ?_ | ((first | refine tg_split rfl (fun h => ?_) (fun h => ?_) | refine ts_cond rfl (fun h => ?_) (fun h => ?_)) <;> (try simp only [decide_eq_true_eq, decide_eq_false_iff_not, Bool.not_eq_true', Bool.not_eq_false', Bool.not_true, Bool.not_false, Bool.not_not, beq_iff_eq, Bool.not_eq_true, Bool.not_eq_false] at h) <;> try (exfalso; omega; done)) | fail)
        exact .fr rfl
    · have c12 := at_no p ho hc s (fun h => h1 h.1)
      have hd : decide (((s.thr.map cThr).length : Int) = ((p.threads.map cTh).length : Int)) = false ∨ True := .inr trivial
      repeat' (first | refine goR rfl ?_ | refine goS rfl ?_ | refine tret1 rfl ?_ | refine tretN rfl ?_ | refine tr_guard_y rfl rfl ?_ | refine tr_guard_n rfl rfl ?_ | refine ts_cond_t rfl rfl ?_ | refine ts_cond_f rfl rfl ?_ | refine tr_mcallD hP hG (c6) rfl [] [(14, 0), (15, 1), (16, 2)] 17 rfl rfl rfl rfl rfl rfl rfl rfl rfl rfl ?_ | refine tr_mcallD hP hG (c5) rfl [(0, 2), (1, 3), (2, 4)] [(2, 0), (3, 1), (4, 2), (20, 3), (21, 4)] 22 rfl rfl rfl rfl rfl rfl rfl rfl rfl rfl ?_ | refine tr_mcallD hP hG (c5) rfl [(0, 14), (1, 15), (2, 16)] [(14, 0), (15, 1), (16, 2), (25, 3), (26, 4)] 27 rfl rfl rfl rfl rfl rfl rfl rfl rfl rfl ?_ | refine tr_callL rfl (.cons (.aggL (.cons (.s 20 1 _ true _ _ rfl (by rw [List.length_map])) (.cons (.s 21 16 _ true _ _ rfl (by rw [List.length_map])) (.cons (.nil 1) (.cons (.fr rfl) .nil))))) (.cons (.aggL (.cons (.s 25 1 _ true _ _ rfl (by rw [List.length_map])) (.cons (.s 26 16 _ true _ _ rfl (by rw [List.length_map])) (.cons (.nil 1) (.cons (.fr rfl) .nil))))) .nil)) (by rw [hP]; exact c7 _) rfl ?_ | fail)
      repeat' (first | refine goR rfl ?_ | refine goS rfl ?_ | refine tret1 rfl ?_ | refine tretN rfl ?_ | refine tr_guard_y rfl rfl ?_ | refine tr_guard_n rfl rfl ?_ | refine ts_cond_t rfl rfl ?_ | refine ts_cond_f rfl rfl ?_ | refine tr_light (tl_slc (r := (st.drop half).map fun n => [tI n]) rfl rfl rfl ⟨by simp only [Option.getD_some]; omega, by simp only [Option.getD_some, Option.getD_none]; omega, by simp only [Option.getD_none]; omega⟩ hsl2) ?_ | refine tr_mcallD hP hG (c8) rfl [(0, 2), (1, 3), (2, 4)] [(2, 0), (3, 1), (4, 2)] 30 rfl rfl rfl rfl rfl rfl rfl rfl rfl rfl ?_ | refine tr_mcallD hP hG (c8) rfl [(0, 14), (1, 15), (2, 16)] [(14, 0), (15, 1), (16, 2)] 33 rfl rfl rfl rfl rfl rfl rfl rfl rfl rfl ?_ | refine tr_callA rfl (by rw [hP, hG]; exact c9) rfl ?_ | refine tr_mcallD hP hG (c10) rfl [(0, 2), (1, 3), (2, 4)] [(2, 0), (3, 1), (4, 2), (36, 3), (37, 4)] 38 rfl rfl rfl rfl rfl rfl rfl rfl rfl rfl ?_ | refine tr_mcallD hP hG (c10) rfl [(0, 14), (1, 15), (2, 16)] [(14, 0), (15, 1), (16, 2), (41, 3), (42, 4)] 43 rfl rfl rfl rfl rfl rfl rfl rfl rfl rfl ?_ | refine tr_callL rfl (.cons (.aggL (.cons (.s 36 1 _ true _ _ rfl (by rw [List.length_map])) (.cons (.s 37 16 _ true _ _ rfl (by rw [List.length_map])) (.cons (.nil 1) (.cons (.fr rfl) .nil))))) (.cons (.aggL (.cons (.s 41 1 _ true _ _ rfl (by rw [List.length_map])) (.cons (.s 42 16 _ true _ _ rfl (by rw [List.length_map])) (.cons (.nil 1) (.cons (.fr rfl) .nil))))) .nil)) (by rw [hP]; exact c11 _) rfl ?_ | refine tr_callA rfl (by rw [hP, hG]; exact c12) rfl ?_ | (refine tr_light (tl_eqb (by rw [hP]; exact ut_bool) rfl rfl) ?_; first | rw [hd] | skip) | refine tr_callA rfl (by rw [hP, hG]; exact alive_spec) rfl ?_ | ((first | refine tg_split rfl (fun h => ?_) (fun h => ?_) | refine ts_cond rfl (fun h => ?_) (fun h => ?_)) <;> (try simp only [decide_eq_true_eq, decide_eq_false_iff_not, Bool.not_eq_true', Bool.not_eq_false', Bool.not_true, Bool.not_false, Bool.not_not, beq_iff_eq, Bool.not_eq_true, Bool.not_eq_false] at h) <;> try (exfalso; omega; done)) | fail)
      exact .fr rfl
end
end Go.Proofs.YtfimjmkhmfnaeaaDoor
