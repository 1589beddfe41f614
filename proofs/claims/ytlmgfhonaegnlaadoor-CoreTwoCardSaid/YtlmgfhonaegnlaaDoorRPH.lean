/-
  Walks of functions of the program, and what the laws need of them.
-/
import Derived.Test.YtlmgfhonaegnlaaDoorRPG
import Derived.Test.YtlmgfhonaegnlaaDoorRPE
import Derived.Test.YtlmgfhonaegnlaaDoorVH
import Derived.Test.YtlmgfhonaegnlaaDoorRPC
set_option linter.all false
set_option linter.unusedSimpArgs false
set_option linter.unusedVariables false
set_option linter.unnecessarySimpa false
namespace Go.Proofs.YtlmgfhonaegnlaaDoor
set_option maxRecDepth 20000
open Go Go.Proofs.YtlmgfhonaegnlaaDoor.V Go.Proofs
theorem sh_deed : shapeOf prog 10000 ty_api_Deed = some [.i .i64, .i .i64, .i .i64] := by kernel_rfl
theorem ag_deed : (prog.underlying ty_api_Deed).map aggD = some true := by kernel_rfl
theorem eg_deed : prog.eqGuardType prog.depth ty_api_Deed = false := by kernel_rfl
def pA : Prg := ⟨[⟨bs [120], 1, []⟩], [[mkI 1 false 0 ⟨3, 0, 0, 0⟩ ⟨2, 0, 0, 5⟩ (bs []), hltI]]⟩
def pE : Prg := ⟨[], [[]]⟩
theorem pA_ok : checkC pA = 0 := by kernel_rfl
theorem pE_no : checkC pE ≠ 0 := by
  have : checkC pE = 9 := by kernel_rfl
  rw [this]; decide
theorem okP_small {p : Prg} (h1 : p.syms.length ≤ 100) (h2 : ∀ s ∈ p.syms, s.name.size ≤ 100 ∧ s.init.length ≤ 100) (h3 : p.threads.length ≤ 100) (h4 : ∀ t ∈ p.threads, t.length ≤ 100 ∧ (allLabs t).length ≤ 100 ∧ ∀ i ∈ t, i.to.size ≤ 100 ∧ i.labels.length ≤ 100 ∧ ∀ l ∈ i.labels, l.size ≤ 100) : okP p :=
  ⟨by omega, fun s hs => by have := h2 s hs; omega, by omega, fun t ht => by
    obtain ⟨a, b, c⟩ := h4 t ht
    exact ⟨⟨by omega, by omega⟩, fun i hi => by
      obtain ⟨d, e, f⟩ := c i hi
      exact ⟨by omega, by omega, fun l hl => by have := f l hl; omega⟩⟩⟩
theorem pA_okP : okP pA := by
  refine okP_small (by decide) ?_ (by decide) ?_
  · intro s hs; simp only [pA, List.mem_singleton] at hs; subst hs; decide
  · intro t ht
    simp only [pA, List.mem_singleton] at ht
    subst ht
    refine ⟨by decide, by decide, ?_⟩
    intro i hi
    simp only [List.mem_cons, List.not_mem_nil, or_false] at hi
    rcases hi with rfl | rfl
    · exact ⟨by decide, by decide, fun l hl => by cases hl⟩
    · exact ⟨by decide, by decide, fun l hl => by cases hl⟩
theorem pE_okP : okP pE := by
  refine okP_small (by decide) ?_ (by decide) ?_
  · intro s hs; cases hs
  · intro t ht
    simp only [pE, List.mem_singleton] at ht
    subst ht
    exact ⟨by decide, by decide, fun i hi => by cases hi⟩
theorem zThr_in : thrR zThr := ⟨by unfold inR; decide, by unfold inR; decide, by unfold inR; decide, by unfold inR; decide, by unfold inR; decide, by unfold inR; decide, by unfold inR; decide, by unfold inR; decide⟩
theorem pA_next : nextW pA 0 zThr = ⟨3, 0, 5⟩ := by kernel_rfl
theorem pA_next1 : nextW pA 1 zThr = ⟨0, 0, 0⟩ := by kernel_rfl
theorem pA_local : localW pA 0 zThr = { zThr with pc := 1 } := by kernel_rfl
section
attribute [local irreducible] TwS TwR thenT inBlockT retT nextW localW
theorem alive_spec : Pure prog Tabs n_law_alive [] (tB true) := by
  have c1 := make_spec pA pA_okP pA_ok
  have c2 := next_spec pA pA_okP pA_ok 0 zThr zThr_in
  have c3 := localP_spec pA pA_okP pA_ok 0 zThr zThr_in
  have c4 := next_spec pA pA_okP pA_ok 1 zThr zThr_in
  have c5 := make_no pE pE_okP pE_no
  rw [pA_next] at c2
  rw [pA_local] at c3
  rw [pA_next1] at c4
  refine Pure.of mixedOk (fn := f_law_alive) (by kernel_rfl) (by kernel_rfl) ok_law_alive rfl fun C hP hG hp => goF ?_
  simp only [fs_law_alive, targEnv, Nat.zero_add, Nat.reduceAdd]
  repeat' (first | refine goR rfl ?_ | refine goS rfl ?_ | refine tret1 rfl ?_ | refine tretN rfl ?_ | refine tr_guard_y rfl rfl ?_ | refine tr_guard_n rfl rfl ?_ | refine ts_cond_t rfl rfl ?_ | refine ts_cond_f rfl rfl ?_ | fail)
  refine tr_weak ((w_rowsA (k := 1) (ys := [cIns (mkI 1 false 0 ⟨3, 0, 0, 0⟩ ⟨2, 0, 0, 5⟩ (bs [])), cIns hltI]) rfl (by rfl) (by intro h; cases h) (by decide) ?_).trans (w_freeze (d := 10) (k := 1) rfl rfl (.aggL (.cons (.s 2 true rfl) .nil)))) ?_
  · repeat' (first | exact .nil | refine .cons ?_ ?_ | exact .nil 1 | exact .refl _)
  repeat' (first | refine goR rfl ?_ | refine goS rfl ?_ | refine tret1 rfl ?_ | refine tretN rfl ?_ | refine tr_guard_y rfl rfl ?_ | refine tr_guard_n rfl rfl ?_ | refine ts_cond_t rfl rfl ?_ | refine ts_cond_f rfl rfl ?_ | fail)
  refine tr_weak ((w_rowsA (k := 0) (ys := pA.syms.map cSym) rfl (by rfl) (by intro h; cases h) (by decide) ?_).trans ((w_freeze (d := 13) (k := 0) rfl rfl (.aggL (.cons (.s 1 true rfl) (.cons (.refl _) .nil)))).trans (w_freeze (d := 13) (k := 2) rfl rfl (.aggL (.cons (.refl _) (.cons (.s 1 true rfl) .nil)))))) ?_
  · repeat' (first | exact .nil | refine .cons ?_ ?_ | exact .nil 1 | exact .refl _)
  repeat' (first | refine goR rfl ?_ | refine goS rfl ?_ | refine tret1 rfl ?_ | refine tretN rfl ?_ | refine tr_guard_y rfl rfl ?_ | refine tr_guard_n rfl rfl ?_ | refine ts_cond_t rfl rfl ?_ | refine ts_cond_f rfl rfl ?_ | refine tr_callA rfl (by rw [hP, hG]; exact c1) rfl ?_ | refine tr_callA rfl (by rw [hP, hG]; exact c2) rfl ?_ | refine tr_callA rfl (by rw [hP, hG]; exact c3) rfl ?_ | refine tr_callA rfl (by rw [hP, hG]; exact c4) rfl ?_ | refine tr_light (tl_eqT (by rw [hP]; exact sh_deed) (by rw [hP]; exact ag_deed) (by rw [hP]; exact eg_deed) rfl rfl rfl rfl rfl) ?_ | refine tr_light (tl_eqT (by rw [hP]; exact sh_thr) (by rw [hP]; exact ag_thr) (by rw [hP]; exact eg_thr) rfl rfl rfl rfl rfl) ?_ | fail)
  refine tr_weak (w_rowsA (k := 4) (ys := [[.lst 13 []]]) rfl (by rfl) (by intro h; cases h) (by decide) (.cons (.nil 13) .nil)) ?_
  refine tr_callL rfl (.cons (.aggL (.cons (.nil 3) (.cons (.s 4 1 1 true [[.lst 13 []]] ty_api_Thread rfl rfl) .nil))) .nil) (by rw [hP, hG]; exact c5) rfl ?_
  repeat' (first | refine goR rfl ?_ | refine goS rfl ?_ | refine tret1 rfl ?_ | refine tretN rfl ?_ | refine tr_guard_y rfl rfl ?_ | refine tr_guard_n rfl rfl ?_ | refine ts_cond_t rfl rfl ?_ | refine ts_cond_f rfl rfl ?_ | fail)
  exact .fr rfl
end
end Go.Proofs.YtlmgfhonaegnlaaDoor
namespace Go.Proofs.YtlmgfhonaegnlaaDoor
set_option maxRecDepth 20000
open Go Go.Proofs.YtlmgfhonaegnlaaDoor.V Go.Proofs
def longB (l : List ByteArray) : Bool := l.any fun s => decide (60 < s.size)
def greatI (i : Ins) : Bool := if 6 < i.labels.length ∨ 60 < i.to.size then true else longB i.labels
def greatT (t : List Ins) : Bool := if 12 < t.length then true else t.any greatI
def symG (s : Sym) : Bool := decide (60 < s.name.size ∨ 66 < s.init.length)
def greatP (p : Prg) : Bool := if 66 < p.syms.length ∨ 66 < p.threads.length then true else if p.syms.any symG then true else p.threads.any greatT
section
attribute [local irreducible] TwS TwR thenT inBlockT retT
variable {G : World → Prop}
theorem greatI_spec (i : Ins) : Pure prog G n_book_GreatIns [.agg (cIns i)] (tB (greatI i)) := by
  refine Pure.of mixedOk (fn := f_book_GreatIns) (by kernel_rfl) (by kernel_rfl) ok_book_GreatIns rfl fun C hP hG hp => goF ?_
  simp only [fs_book_GreatIns, targEnv, Nat.zero_add, Nat.reduceAdd]
  have hl : (i.labels.map fun s => [tS s]).length = i.labels.length := List.length_map ..
  by_cases hb : 6 < i.labels.length ∨ 60 < i.to.size
  · rw [greatI, if_pos hb]
    repeat' (first | refine goR rfl ?_ | refine goS rfl ?_ | refine tret1 rfl ?_ | refine tretN rfl ?_ | refine tr_guard_y rfl rfl ?_ | refine tr_guard_n rfl rfl ?_ | refine ts_cond_t rfl rfl ?_ | refine ts_cond_f rfl rfl ?_ | ((first | refine tg_split rfl (fun h => ?_) (fun h => ?_) | refine ts_cond rfl (fun h => ?_) (fun h => ?_)) <;> (try simp only [decide_eq_true_eq, decide_eq_false_iff_not, Bool.not_eq_true', Bool.not_eq_false', Bool.not_true, Bool.not_false, Bool.not_not, beq_iff_eq, Bool.not_eq_true, Bool.not_eq_false] at h) <;> try (exfalso; omega; done)) | fail)
    all_goals exact .fr rfl
  rw [greatI, if_neg hb]
  repeat' (first | refine goR rfl ?_ | refine goS rfl ?_ | refine tret1 rfl ?_ | refine tretN rfl ?_ | refine tr_guard_y rfl rfl ?_ | refine tr_guard_n rfl rfl ?_ | refine ts_cond_t rfl rfl ?_ | refine ts_cond_f rfl rfl ?_ | ((first | refine tg_split rfl (fun h => ?_) (fun h => ?_) | refine ts_cond rfl (fun h => ?_) (fun h => ?_)) <;> (try simp only [decide_eq_true_eq, decide_eq_false_iff_not, Bool.not_eq_true', Bool.not_eq_false', Bool.not_true, Bool.not_false, Bool.not_not, beq_iff_eq, Bool.not_eq_true, Bool.not_eq_false] at h) <;> try (exfalso; omega; done)) | fail)
  refine loopS (fun m env σ => ∃ a b, i.labels = a ++ b ∧ m = b.length ∧ longB i.labels = longB b ∧ env = [(1, .p 0 0), (3, tI a.length)] ∧ σ = ⟨[(0, .cells (cIns i) ty_api_Ins)], 1⟩) i.labels.length ?_ ⟨[], i.labels, rfl, rfl, rfl, rfl, rfl⟩ ?_
  · (refine w_ren [(0, 0)] rfl (by rw [hp]; intro j hj; cases hj) rfl ?_ ?_ <;> repeat' (first | exact .nil | exact .f _ rfl | exact .s _ _ _ _ _ _ rfl | exact .p _ _ _ rfl | exact .rows _ _ _ | exact .iter _ _ | exact RenL.nil _ | refine RenL.cons ?_ ?_ | refine .cells _ _ _ ?_ | refine .cons _ _ _ _ rfl ?_ ?_ | refine .cons _ _ _ _ _ rfl rfl ?_ ?_ | refine .rowsE ?_ | refine .sE rfl ?_ | exact .m _ _ rfl | refine .fE rfl ?_ | exact RenO.mapB _ | exact RenO.mapB [] | fail))
  rintro m env σ ⟨a, b, e, rfl, hI, rfl, rfl⟩
  have hla : i.labels.length = a.length + b.length := by rw [e, List.length_append]
  cases b with
  | nil =>
    rw [List.length_nil] at hla
    repeat' (first | refine goR rfl ?_ | refine goS rfl ?_ | refine tret1 rfl ?_ | refine tretN rfl ?_ | refine tr_guard_y rfl rfl ?_ | refine tr_guard_n rfl rfl ?_ | refine ts_cond_t rfl rfl ?_ | refine ts_cond_f rfl rfl ?_ | refine ts_cond_f rfl (decide_eq_false (by rw [List.length_map]; omega)) ?_ | fail)
    rw [hI]
    exact .fr rfl
  | cons x b =>
    have hx : i.labels[a.length]? = some x := by rw [e]; exact ix
    simp only [List.length_cons] at hla
    simp only [longB, List.any_cons] at hI
    repeat' (first | refine goR rfl ?_ | refine goS rfl ?_ | refine tret1 rfl ?_ | refine tretN rfl ?_ | refine tr_guard_y rfl rfl ?_ | refine tr_guard_n rfl rfl ?_ | refine ts_cond_t rfl rfl ?_ | refine ts_cond_f rfl rfl ?_ | refine ts_cond_t rfl (decide_eq_true (by rw [List.length_map]; omega)) ?_ | refine tr_light (tl_ixm rfl rfl rfl hx) ?_ | ((first | refine tg_split rfl (fun h => ?_) (fun h => ?_) | refine ts_cond rfl (fun h => ?_) (fun h => ?_)) <;> try simp only [decide_eq_true_eq, decide_eq_false_iff_not, Bool.not_eq_true', Bool.not_eq_false', Bool.not_true, Bool.not_false, Bool.not_not, beq_iff_eq, Bool.not_eq_true, Bool.not_eq_false] at h) | fail)
    · have : longB i.labels = true := by rw [longB, hI, decide_eq_true (by omega), Bool.true_or]
      rw [this]
      exact .fr rfl
    · refine again (m' := b.length) (Nat.lt_succ_self _) ?_ ⟨a ++ [x], b, by rw [e]; simp, rfl, by rw [longB, hI, decide_eq_false (by omega), Bool.false_or]; rfl, rfl, rfl⟩
      (refine w_ren [(0, 0)] rfl (by rw [hp]; intro j hj; cases hj) rfl ?_ ?_ <;> repeat' (first | exact .nil | exact .f _ rfl | exact .s _ _ _ _ _ _ rfl | exact .p _ _ _ rfl | exact .rows _ _ _ | exact .iter _ _ | exact RenL.nil _ | refine RenL.cons ?_ ?_ | refine .cells _ _ _ ?_ | refine .cons _ _ _ _ rfl ?_ ?_ | refine .cons _ _ _ _ _ rfl rfl ?_ ?_ | refine .rowsE ?_ | refine .sE rfl ?_ | exact .m _ _ rfl | refine .fE rfl ?_ | exact RenO.mapB _ | exact RenO.mapB [] | fail))
      all_goals first | rfl | (rw [w64 (by omega), List.length_append, List.length_singleton]; rfl) | (rw [List.length_append]; rfl) | (rw [List.map_append]; rfl) | rw [List.length_map] | rw [List.append_nil] | skip
theorem greatT_spec (t : List Ins) : Pure prog G n_book_GreatThread [.agg (cTh t)] (tB (greatT t)) := by
  refine Pure.of mixedOk (fn := f_book_GreatThread) (by kernel_rfl) (by kernel_rfl) ok_book_GreatThread rfl fun C hP hG hp => goF ?_
  simp only [fs_book_GreatThread, targEnv, Nat.zero_add, Nat.reduceAdd]
  have hl : (t.map cIns).length = t.length := List.length_map ..
  by_cases hb : 12 < t.length
  · rw [greatT, if_pos hb]
    repeat' (first | refine goR rfl ?_ | refine goS rfl ?_ | refine tret1 rfl ?_ | refine tretN rfl ?_ | refine tr_guard_y rfl rfl ?_ | refine tr_guard_n rfl rfl ?_ | refine ts_cond_t rfl rfl ?_ | refine ts_cond_f rfl rfl ?_ | ((first | refine tg_split rfl (fun h => ?_) (fun h => ?_) | refine ts_cond rfl (fun h => ?_) (fun h => ?_)) <;> (try simp only [decide_eq_true_eq, decide_eq_false_iff_not, Bool.not_eq_true', Bool.not_eq_false', Bool.not_true, Bool.not_false, Bool.not_not, beq_iff_eq, Bool.not_eq_true, Bool.not_eq_false] at h) <;> try (exfalso; omega; done)) | fail)
    all_goals exact .fr rfl
  rw [greatT, if_neg hb]
  repeat' (first | refine goR rfl ?_ | refine goS rfl ?_ | refine tret1 rfl ?_ | refine tretN rfl ?_ | refine tr_guard_y rfl rfl ?_ | refine tr_guard_n rfl rfl ?_ | refine ts_cond_t rfl rfl ?_ | refine ts_cond_f rfl rfl ?_ | ((first | refine tg_split rfl (fun h => ?_) (fun h => ?_) | refine ts_cond rfl (fun h => ?_) (fun h => ?_)) <;> (try simp only [decide_eq_true_eq, decide_eq_false_iff_not, Bool.not_eq_true', Bool.not_eq_false', Bool.not_true, Bool.not_false, Bool.not_not, beq_iff_eq, Bool.not_eq_true, Bool.not_eq_false] at h) <;> try (exfalso; omega; done)) | fail)
  refine loopS (fun m env σ => ∃ a b, t = a ++ b ∧ m = b.length ∧ t.any greatI = b.any greatI ∧ env = [(1, .p 0 0), (3, tI a.length)] ∧ σ = ⟨[(0, .cells (cTh t) ty_api_Thread)], 1⟩) t.length ?_ ⟨[], t, rfl, rfl, rfl, rfl, rfl⟩ ?_
  · (refine w_ren [(0, 0)] rfl (by rw [hp]; intro j hj; cases hj) rfl ?_ ?_ <;> repeat' (first | exact .nil | exact .f _ rfl | exact .s _ _ _ _ _ _ rfl | exact .p _ _ _ rfl | exact .rows _ _ _ | exact .iter _ _ | exact RenL.nil _ | refine RenL.cons ?_ ?_ | refine .cells _ _ _ ?_ | refine .cons _ _ _ _ rfl ?_ ?_ | refine .cons _ _ _ _ _ rfl rfl ?_ ?_ | refine .rowsE ?_ | refine .sE rfl ?_ | exact .m _ _ rfl | refine .fE rfl ?_ | exact RenO.mapB _ | exact RenO.mapB [] | fail))
  rintro m env σ ⟨a, b, e, rfl, hI, rfl, rfl⟩
  have hla : t.length = a.length + b.length := by rw [e, List.length_append]
  cases b with
  | nil =>
    rw [List.length_nil] at hla
    repeat' (first | refine goR rfl ?_ | refine goS rfl ?_ | refine tret1 rfl ?_ | refine tretN rfl ?_ | refine tr_guard_y rfl rfl ?_ | refine tr_guard_n rfl rfl ?_ | refine ts_cond_t rfl rfl ?_ | refine ts_cond_f rfl rfl ?_ | refine ts_cond_f rfl (decide_eq_false (by rw [List.length_map]; omega)) ?_ | fail)
    rw [hI]
    exact .fr rfl
  | cons x b =>
    have hx : t[a.length]? = some x := by rw [e]; exact ix
    simp only [List.length_cons] at hla
    simp only [List.any_cons] at hI
    obtain ⟨g, hg⟩ : ∃ g, g = greatI x := ⟨_, rfl⟩
    have c := fun G => greatI_spec (G := G) x
    rw [← hg] at hI c
    cases g
    · repeat' (first | refine goR rfl ?_ | refine goS rfl ?_ | refine tret1 rfl ?_ | refine tretN rfl ?_ | refine tr_guard_y rfl rfl ?_ | refine tr_guard_n rfl rfl ?_ | refine ts_cond_t rfl rfl ?_ | refine ts_cond_f rfl rfl ?_ | refine ts_cond_t rfl (decide_eq_true (by rw [List.length_map]; omega)) ?_ | refine tr_light (tl_ixm rfl rfl rfl hx) ?_ | refine tr_callA rfl (by rw [hP]; exact c _) rfl ?_ | fail)
      refine again (m' := b.length) (Nat.lt_succ_self _) ?_ ⟨a ++ [x], b, by rw [e]; simp, rfl, by rw [hI, Bool.false_or], rfl, rfl⟩
      (refine w_ren [(0, 0)] rfl (by rw [hp]; intro j hj; cases hj) rfl ?_ ?_ <;> repeat' (first | exact .nil | exact .f _ rfl | exact .s _ _ _ _ _ _ rfl | exact .p _ _ _ rfl | exact .rows _ _ _ | exact .iter _ _ | exact RenL.nil _ | refine RenL.cons ?_ ?_ | refine .cells _ _ _ ?_ | refine .cons _ _ _ _ rfl ?_ ?_ | refine .cons _ _ _ _ _ rfl rfl ?_ ?_ | refine .rowsE ?_ | refine .sE rfl ?_ | exact .m _ _ rfl | refine .fE rfl ?_ | exact RenO.mapB _ | exact RenO.mapB [] | fail))
      all_goals first | rfl | (rw [w64 (by omega), List.length_append, List.length_singleton]; rfl) | (rw [List.length_append]; rfl) | (rw [List.map_append]; rfl) | rw [List.length_map] | rw [List.append_nil] | skip
    · repeat' (first | refine goR rfl ?_ | refine goS rfl ?_ | refine tret1 rfl ?_ | refine tretN rfl ?_ | refine tr_guard_y rfl rfl ?_ | refine tr_guard_n rfl rfl ?_ | refine ts_cond_t rfl rfl ?_ | refine ts_cond_f rfl rfl ?_ | refine ts_cond_t rfl (decide_eq_true (by rw [List.length_map]; omega)) ?_ | refine tr_light (tl_ixm rfl rfl rfl hx) ?_ | refine tr_callA rfl (by rw [hP]; exact c _) rfl ?_ | fail)
      rw [hI, Bool.true_or]
      exact .fr rfl
theorem great_spec (p : Prg) : Pure prog G n_book_Great [.agg (cPrg p)] (tB (greatP p)) := by
  refine Pure.of mixedOk (fn := f_book_Great) (by kernel_rfl) (by kernel_rfl) ok_book_Great rfl fun C hP hG hp => goF ?_
  simp only [fs_book_Great, targEnv, Nat.zero_add, Nat.reduceAdd]
  have hl : (p.syms.map cSym).length = p.syms.length := List.length_map ..
  have hl2 : (p.threads.map cTh).length = p.threads.length := List.length_map ..
  by_cases hb : 66 < p.syms.length ∨ 66 < p.threads.length
  · rw [greatP, if_pos hb]
    repeat' (first | refine goR rfl ?_ | refine goS rfl ?_ | refine tret1 rfl ?_ | refine tretN rfl ?_ | refine tr_guard_y rfl rfl ?_ | refine tr_guard_n rfl rfl ?_ | refine ts_cond_t rfl rfl ?_ | refine ts_cond_f rfl rfl ?_ | ((first | refine tg_split rfl (fun h => ?_) (fun h => ?_) | refine ts_cond rfl (fun h => ?_) (fun h => ?_)) <;> (try simp only [decide_eq_true_eq, decide_eq_false_iff_not, Bool.not_eq_true', Bool.not_eq_false', Bool.not_true, Bool.not_false, Bool.not_not, beq_iff_eq, Bool.not_eq_true, Bool.not_eq_false] at h) <;> try (exfalso; omega; done)) | fail)
    all_goals exact .fr rfl
  rw [greatP, if_neg hb]
  repeat' (first | refine goR rfl ?_ | refine goS rfl ?_ | refine tret1 rfl ?_ | refine tretN rfl ?_ | refine tr_guard_y rfl rfl ?_ | refine tr_guard_n rfl rfl ?_ | refine ts_cond_t rfl rfl ?_ | refine ts_cond_f rfl rfl ?_ | ((first | refine tg_split rfl (fun h => ?_) (fun h => ?_) | refine ts_cond rfl (fun h => ?_) (fun h => ?_)) <;> (try simp only [decide_eq_true_eq, decide_eq_false_iff_not, Bool.not_eq_true', Bool.not_eq_false', Bool.not_true, Bool.not_false, Bool.not_not, beq_iff_eq, Bool.not_eq_true, Bool.not_eq_false] at h) <;> try (exfalso; omega; done)) | fail)
  refine loopS (fun m env σ => ∃ a b, p.syms = a ++ b ∧ m = b.length ∧ p.syms.any symG = b.any symG ∧ env = [(1, .p 0 0), (3, tI a.length)] ∧ σ = ⟨[(0, .cells (cPrg p) ty_api_Prog)], 1⟩) p.syms.length ?_ ⟨[], p.syms, rfl, rfl, rfl, rfl, rfl⟩ ?_
  · (refine w_ren [(0, 0)] rfl (by rw [hp]; intro j hj; cases hj) rfl ?_ ?_ <;> repeat' (first | exact .nil | exact .f _ rfl | exact .s _ _ _ _ _ _ rfl | exact .p _ _ _ rfl | exact .rows _ _ _ | exact .iter _ _ | exact RenL.nil _ | refine RenL.cons ?_ ?_ | refine .cells _ _ _ ?_ | refine .cons _ _ _ _ rfl ?_ ?_ | refine .cons _ _ _ _ _ rfl rfl ?_ ?_ | refine .rowsE ?_ | refine .sE rfl ?_ | exact .m _ _ rfl | refine .fE rfl ?_ | exact RenO.mapB _ | exact RenO.mapB [] | fail))
  rintro m env σ ⟨a, b, e, rfl, hI, rfl, rfl⟩
  have hla : p.syms.length = a.length + b.length := by rw [e, List.length_append]
  cases b with
  | cons x b =>
    have hx : p.syms[a.length]? = some x := by rw [e]; exact ix
    simp only [List.length_cons] at hla
    simp only [List.any_cons] at hI
    have hxi : (x.init.map fun n => [tI n]).length = x.init.length := List.length_map ..
    by_cases hs : 60 < x.name.size ∨ 66 < x.init.length
    · have : symG x = true := decide_eq_true hs
      rw [this, Bool.true_or] at hI
      rw [if_pos hI]
      repeat' (first | refine goR rfl ?_ | refine goS rfl ?_ | refine tret1 rfl ?_ | refine tretN rfl ?_ | refine tr_guard_y rfl rfl ?_ | refine tr_guard_n rfl rfl ?_ | refine ts_cond_t rfl rfl ?_ | refine ts_cond_f rfl rfl ?_ | refine ts_cond_t rfl (decide_eq_true (by rw [List.length_map]; omega)) ?_ | refine tr_light (tl_ixm rfl rfl rfl hx) ?_ | ((first | refine tg_split rfl (fun h => ?_) (fun h => ?_) | refine ts_cond rfl (fun h => ?_) (fun h => ?_)) <;> (try simp only [decide_eq_true_eq, decide_eq_false_iff_not, Bool.not_eq_true', Bool.not_eq_false', Bool.not_true, Bool.not_false, Bool.not_not, beq_iff_eq, Bool.not_eq_true, Bool.not_eq_false] at h) <;> try (exfalso; omega; done)) | fail)
      all_goals exact .fr rfl
    · have : symG x = false := decide_eq_false hs
      rw [this, Bool.false_or] at hI
      repeat' (first | refine goR rfl ?_ | refine goS rfl ?_ | refine tret1 rfl ?_ | refine tretN rfl ?_ | refine tr_guard_y rfl rfl ?_ | refine tr_guard_n rfl rfl ?_ | refine ts_cond_t rfl rfl ?_ | refine ts_cond_f rfl rfl ?_ | refine ts_cond_t rfl (decide_eq_true (by rw [List.length_map]; omega)) ?_ | refine tr_light (tl_ixm rfl rfl rfl hx) ?_ | ((first | refine tg_split rfl (fun h => ?_) (fun h => ?_) | refine ts_cond rfl (fun h => ?_) (fun h => ?_)) <;> (try simp only [decide_eq_true_eq, decide_eq_false_iff_not, Bool.not_eq_true', Bool.not_eq_false', Bool.not_true, Bool.not_false, Bool.not_not, beq_iff_eq, Bool.not_eq_true, Bool.not_eq_false] at h) <;> try (exfalso; omega; done)) | fail)
      refine again (m' := b.length) (Nat.lt_succ_self _) ?_ ⟨a ++ [x], b, by rw [e]; simp, rfl, hI, rfl, rfl⟩
      (refine w_ren [(0, 0)] rfl (by rw [hp]; intro j hj; cases hj) rfl ?_ ?_ <;> repeat' (first | exact .nil | exact .f _ rfl | exact .s _ _ _ _ _ _ rfl | exact .p _ _ _ rfl | exact .rows _ _ _ | exact .iter _ _ | exact RenL.nil _ | refine RenL.cons ?_ ?_ | refine .cells _ _ _ ?_ | refine .cons _ _ _ _ rfl ?_ ?_ | refine .cons _ _ _ _ _ rfl rfl ?_ ?_ | refine .rowsE ?_ | refine .sE rfl ?_ | exact .m _ _ rfl | refine .fE rfl ?_ | exact RenO.mapB _ | exact RenO.mapB [] | fail))
      all_goals first | rfl | (rw [w64 (by omega), List.length_append, List.length_singleton]; rfl) | (rw [List.length_append]; rfl) | (rw [List.map_append]; rfl) | rw [List.length_map] | rw [List.append_nil] | skip
  | nil =>
    rw [List.length_nil] at hla
    rw [List.any_nil] at hI
    rw [if_neg (by rw [hI]; decide)]
    repeat' (first | refine goR rfl ?_ | refine goS rfl ?_ | refine tret1 rfl ?_ | refine tretN rfl ?_ | refine tr_guard_y rfl rfl ?_ | refine tr_guard_n rfl rfl ?_ | refine ts_cond_t rfl rfl ?_ | refine ts_cond_f rfl rfl ?_ | refine ts_cond_f rfl (decide_eq_false (by rw [List.length_map]; omega)) ?_ | fail)
    refine loopS (fun m env σ => ∃ a b, p.threads = a ++ b ∧ m = b.length ∧ p.threads.any greatT = b.any greatT ∧ env = [(1, .p 0 0), (4, tI a.length)] ∧ σ = ⟨[(0, .cells (cPrg p) ty_api_Prog)], 1⟩) p.threads.length ?_ ⟨[], p.threads, rfl, rfl, rfl, rfl, rfl⟩ ?_
    · (refine w_ren [(0, 0)] rfl (by rw [hp]; intro j hj; cases hj) rfl ?_ ?_ <;> repeat' (first | exact .nil | exact .f _ rfl | exact .s _ _ _ _ _ _ rfl | exact .p _ _ _ rfl | exact .rows _ _ _ | exact .iter _ _ | exact RenL.nil _ | refine RenL.cons ?_ ?_ | refine .cells _ _ _ ?_ | refine .cons _ _ _ _ rfl ?_ ?_ | refine .cons _ _ _ _ _ rfl rfl ?_ ?_ | refine .rowsE ?_ | refine .sE rfl ?_ | exact .m _ _ rfl | refine .fE rfl ?_ | exact RenO.mapB _ | exact RenO.mapB [] | fail))
    rintro m env σ ⟨a, b, e, rfl, hI, rfl, rfl⟩
    have hla : p.threads.length = a.length + b.length := by rw [e, List.length_append]
    cases b with
    | nil =>
      rw [List.length_nil] at hla
      repeat' (first | refine goR rfl ?_ | refine goS rfl ?_ | refine tret1 rfl ?_ | refine tretN rfl ?_ | refine tr_guard_y rfl rfl ?_ | refine tr_guard_n rfl rfl ?_ | refine ts_cond_t rfl rfl ?_ | refine ts_cond_f rfl rfl ?_ | refine ts_cond_f rfl (decide_eq_false (by rw [List.length_map]; omega)) ?_ | fail)
      rw [hI]
      exact .fr rfl
    | cons x b =>
      have hx : p.threads[a.length]? = some x := by rw [e]; exact ix
      simp only [List.length_cons] at hla
      simp only [List.any_cons] at hI
      obtain ⟨g, hg⟩ : ∃ g, g = greatT x := ⟨_, rfl⟩
      have c := fun G => greatT_spec (G := G) x
      rw [← hg] at hI c
      cases g
      · repeat' (first | refine goR rfl ?_ | refine goS rfl ?_ | refine tret1 rfl ?_ | refine tretN rfl ?_ | refine tr_guard_y rfl rfl ?_ | refine tr_guard_n rfl rfl ?_ | refine ts_cond_t rfl rfl ?_ | refine ts_cond_f rfl rfl ?_ | refine ts_cond_t rfl (decide_eq_true (by rw [List.length_map]; omega)) ?_ | refine tr_light (tl_ixm rfl rfl rfl hx) ?_ | refine tr_callA rfl (by rw [hP]; exact c _) rfl ?_ | fail)
        refine again (m' := b.length) (Nat.lt_succ_self _) ?_ ⟨a ++ [x], b, by rw [e]; simp, rfl, by rw [hI, Bool.false_or], rfl, rfl⟩
        (refine w_ren [(0, 0)] rfl (by rw [hp]; intro j hj; cases hj) rfl ?_ ?_ <;> repeat' (first | exact .nil | exact .f _ rfl | exact .s _ _ _ _ _ _ rfl | exact .p _ _ _ rfl | exact .rows _ _ _ | exact .iter _ _ | exact RenL.nil _ | refine RenL.cons ?_ ?_ | refine .cells _ _ _ ?_ | refine .cons _ _ _ _ rfl ?_ ?_ | refine .cons _ _ _ _ _ rfl rfl ?_ ?_ | refine .rowsE ?_ | refine .sE rfl ?_ | exact .m _ _ rfl | refine .fE rfl ?_ | exact RenO.mapB _ | exact RenO.mapB [] | fail))
        all_goals first | rfl | (rw [w64 (by omega), List.length_append, List.length_singleton]; rfl) | (rw [List.length_append]; rfl) | (rw [List.map_append]; rfl) | rw [List.length_map] | rw [List.append_nil] | skip
      · repeat' (first | refine goR rfl ?_ | refine goS rfl ?_ | refine tret1 rfl ?_ | refine tretN rfl ?_ | refine tr_guard_y rfl rfl ?_ | refine tr_guard_n rfl rfl ?_ | refine ts_cond_t rfl rfl ?_ | refine ts_cond_f rfl rfl ?_ | refine ts_cond_t rfl (decide_eq_true (by rw [List.length_map]; omega)) ?_ | refine tr_light (tl_ixm rfl rfl rfl hx) ?_ | refine tr_callA rfl (by rw [hP]; exact c _) rfl ?_ | fail)
        rw [hI, Bool.true_or]
        exact .fr rfl
end
theorem any_no {α : Type} {l : List α} {f : α → Bool} (h : l.any f = false) : ∀ x ∈ l, f x = false := fun x hx => by
  cases hf : f x with
  | false => rfl
  | true => exact absurd (List.any_eq_true.mpr ⟨x, hx, hf⟩) (by rw [h]; decide)
theorem labs_len : ∀ {t : List Ins} {n : Nat}, (∀ i ∈ t, i.labels.length ≤ n) → (allLabs t).length ≤ t.length * n
  | [], _, _ => Nat.zero_le _
  | i :: t, n, h => by
    have h1 := h i (List.mem_cons_self ..)
    have h2 := labs_len (t := t) fun j hj => h j (List.mem_cons_of_mem _ hj)
    simp only [allLabs, List.flatMap_cons, List.length_append, List.length_cons] at h2 ⊢
    rw [Nat.add_mul, Nat.one_mul]
    omega
theorem great_ok {p : Prg} (h : greatP p = false) : okP p := by
  unfold greatP at h
  split at h
  · cases h
  rename_i h1
  split at h
  · cases h
  rename_i h2
  have h2 := any_no (Bool.eq_false_iff.mpr h2)
  have h3 := any_no h
  refine ⟨by omega, fun s hs => ?_, by omega, fun t ht => ?_⟩
  · have := of_decide_eq_false (h2 s hs)
    omega
  · have h4 := h3 t ht
    unfold greatT at h4
    split at h4
    · cases h4
    have h5 := any_no h4
    have h6 : ∀ i ∈ t, ¬ (6 < i.labels.length ∨ 60 < i.to.size) ∧ longB i.labels = false := fun i hi => by
      have h7 := h5 i hi
      unfold greatI at h7
      split at h7
      · cases h7
      · exact ⟨‹_›, h7⟩
    have h8 := labs_len (n := 6) fun i hi => by have := (h6 i hi).1; omega
    refine ⟨⟨by omega, by omega⟩, fun i hi => ?_⟩
    obtain ⟨h9, h10⟩ := h6 i hi
    refine ⟨by omega, by omega, fun l hl => ?_⟩
    have := of_decide_eq_false (any_no h10 l hl)
    omega
end Go.Proofs.YtlmgfhonaegnlaaDoor
namespace Go.Proofs.YtlmgfhonaegnlaaDoor
set_option maxRecDepth 20000
open Go Go.Proofs.YtlmgfhonaegnlaaDoor.V Go.Proofs
section
attribute [local irreducible] TwS TwR thenT inBlockT retT nextW localW loadedW swapW
theorem tells_spec (p : Prg) (ho : okP p) (hc : checkC p = 0) (t : Int) (x : Thr) (hx : thrR x) (v : Int) : Pure prog Tabs n_law_tells [.fp (cCore p) 0, .agg (cPrg p), tI t, .agg (cThr x), tI v] (tB true) := by
  have c1 := next_spec p ho hc t x hx
  have c2 := next_spec2 p ho hc t x
  have c3 := localP_spec p ho hc t x hx
  have c4 := localP_spec2 p ho hc t x
  have c5 := loaded_spec p ho hc t x hx v
  have c6 := loaded_spec2 p ho hc t x v
  have c7 := swap_spec p ho hc t x hx v
  have c8 := swap_spec2 p ho hc t x v
  generalize nextW p t x = d at c1 c2
  generalize localW p t x = y at c3 c4
  generalize loadedW p t x v = z at c5 c6
  generalize (swapW p t x v).1 = a at c7 c8
  generalize (swapW p t x v).2.1 = w at c7 c8
  generalize (swapW p t x v).2.2 = b at c7 c8
  refine Pure.of mixedOk (fn := f_law_tells) (by kernel_rfl) (by kernel_rfl) ok_law_tells rfl fun C hP hG hp => goF ?_
  simp only [fs_law_tells, targEnv, Nat.zero_add, Nat.reduceAdd]
  cases b
  all_goals
    repeat' (first | refine goR rfl ?_ | refine goS rfl ?_ | refine tret1 rfl ?_ | refine tretN rfl ?_ | refine tr_guard_y rfl rfl ?_ | refine tr_guard_n rfl rfl ?_ | refine ts_cond_t rfl rfl ?_ | refine ts_cond_f rfl rfl ?_ | refine tr_callA rfl (by rw [hP, hG]; exact c1) rfl ?_ | refine tr_callA rfl (by rw [hP, hG]; exact c2) rfl ?_ | refine tr_callA rfl (by rw [hP, hG]; exact c3) rfl ?_ | refine tr_callA rfl (by rw [hP, hG]; exact c4) rfl ?_ | refine tr_callA rfl (by rw [hP, hG]; exact c5) rfl ?_ | refine tr_callA rfl (by rw [hP, hG]; exact c6) rfl ?_ | refine tr_callA rfl (by rw [hP, hG]; exact c7) rfl ?_ | refine tr_callA rfl (by rw [hP, hG]; exact c8) rfl ?_ | refine tr_light (tl_eqT (by rw [hP]; exact sh_deed) (by rw [hP]; exact ag_deed) (by rw [hP]; exact eg_deed) rfl rfl rfl rfl rfl) ?_ | refine tr_light (tl_eqT (by rw [hP]; exact sh_thr) (by rw [hP]; exact ag_thr) (by rw [hP]; exact eg_thr) rfl rfl rfl rfl rfl) ?_ | (refine tr_light (tl_eqb (by rw [hP]; exact ut_bool) rfl rfl) ?_; rw [beq_self_eq_true]) | ((first | refine tg_split rfl (fun h => ?_) (fun h => ?_) | refine ts_cond rfl (fun h => ?_) (fun h => ?_)) <;> (try simp only [decide_eq_true_eq, decide_eq_false_iff_not, Bool.not_eq_true', Bool.not_eq_false', Bool.not_true, Bool.not_false, Bool.not_not, beq_iff_eq, Bool.not_eq_true, Bool.not_eq_false] at h) <;> try (exfalso; first | exact h trivial | exact h rfl; done)) | fail)
    exact .fr rfl
end
end Go.Proofs.YtlmgfhonaegnlaaDoor
namespace Go.Proofs.YtlmgfhonaegnlaaDoor
set_option maxRecDepth 20000
open Go Go.Proofs.YtlmgfhonaegnlaaDoor.V Go.Proofs
def cActs (l : List (List Act)) : TV := .lst 1 (l.map fun r => [.lst 5 (r.map cAct)])
theorem thrR_pc {z : Thr} (h : thrR z) (f : Flags) (pc ph la st : Int) : thrR { z with f := f, pc := pc, ph := ph, la := la, st := st } := by
  obtain ⟨h0, h1, h2, h3, h4, h5, h6, h7⟩ := h
  exact ⟨h0, h1, h2, h3, h4, h5, h6, h7⟩
section
attribute [local irreducible] TwS TwR thenT inBlockT retT nextW localW loadedW swapW
theorem book_of (l : List (List Act)) (many : Nat) (hm : many < 29) : ∃ p, p = progO l 3 many ∧ okP p ∧ checkC p = 0 ∧ (∀ G, Pure prog G n_book_Prog [cActs l, tI 3, tI many] (.agg (cPrg p))) ∧ p.threads.length ≤ 3 ∧ (∀ r ∈ p.threads, 1 ≤ r.length ∧ r.length ≤ many + 1) := by
  obtain ⟨h1, h2⟩ := prog_ok l 3 many (by decide) hm
  refine ⟨_, rfl, h2, h1, fun G => progO_spec l 3 many (by decide) (by omega), ?_, ?_⟩
  · show ((l.take 3).map (thO many)).length ≤ 3
    rw [List.length_map, List.length_take]; omega
  · intro r hr
    obtain ⟨a, _, rfl⟩ := List.mem_map.1 hr
    rw [thO, labS_len, baseO, rawO, List.length_append, List.length_map, List.length_take, List.length_singleton]
    omega
theorem thr_of (x : Thr) (hx : thrR x) (m : Nat) (hm : m + 1 < 1000000000) (raw : Bool) : ∃ y, thrR y ∧ ∀ G, Pure prog G n_book_Thr [.agg (cThr x), tI ((m + 1 : Nat) : Int), tB raw] (.agg (cThr y)) := by
  cases raw
  · exact ⟨thrO x m, thrO_in hx m, fun G => thrO_spec x m hm⟩
  · exact ⟨x, hx, fun G => thrO_raw x _⟩
theorem coreTells (l : List (List Act)) (t : Int) (x : Thr) (hx : thrR x) (v : Int) (raw : Bool) : Pure prog Tabs n_law_CoreTells [cActs l, tI t, .agg (cThr x), tI v, tB raw] (tB true) := by
  obtain ⟨p, _, ho, hc, c1, _⟩ := book_of l 8 (by decide)
  have c2 := make_spec p ho hc
  have c3 : ∀ G, Pure prog G n_book_Pick [tI t, tI 4] (tI (t % 4)) := fun G => pick_spec t 3 (by decide)
  obtain ⟨y, hy, c4⟩ := thr_of x hx 9 (by decide) raw
  have c5 := tells_spec p ho hc t y hy v
  have c6 := tells_spec p ho hc (t % 4) y hy v
  refine Pure.of mixedOk (fn := f_law_CoreTells) (by kernel_rfl) (by kernel_rfl) ok_law_CoreTells rfl fun C hP hG hp => goF ?_
  simp only [fs_law_CoreTells, targEnv, Nat.zero_add, Nat.reduceAdd]
  cases raw
  all_goals
    repeat' (first | refine goR rfl ?_ | refine goS rfl ?_ | refine tret1 rfl ?_ | refine tretN rfl ?_ | refine tr_guard_y rfl rfl ?_ | refine tr_guard_n rfl rfl ?_ | refine ts_cond_t rfl rfl ?_ | refine ts_cond_f rfl rfl ?_ | refine tr_callA rfl (by rw [hP]; exact c1 _) rfl ?_ | refine tr_callA rfl (by rw [hP, hG]; exact c2) rfl ?_ | refine tr_callA rfl (by rw [hP]; exact c3 _) rfl ?_ | refine tr_callA rfl (by rw [hP]; exact c4 _) rfl ?_ | refine tr_callA rfl (by rw [hP, hG]; exact c5) rfl ?_ | refine tr_callA rfl (by rw [hP, hG]; exact c6) rfl ?_ | refine tr_callA rfl (by rw [hP, hG]; exact alive_spec) rfl ?_ | fail)
    exact .fr rfl
theorem coreNil (t : Int) (x : Thr) (v : Int) : Pure prog Tabs n_law_CoreNil [tI t, .agg (cThr x), tI v] (tB true) := by
  have c1 := fun G => swap_nil (G := G) t x v
  have c2 := fun G => prog_nil (G := G)
  have c3 := fun G => sameProg_spec (G := G) zPrg (by refine okP_small (by decide) ?_ (by decide) ?_ <;> intro s hs <;> cases hs)
  have c4 := fun G => start_nil (G := G)
  have c5 := fun G => sameSt_spec (G := G) zState ⟨by decide, by decide, by decide, fun s hs => by cases hs⟩
  have c6 := fun G => next_nil (G := G) t x
  have c7 := fun G => local_nil (G := G) t x
  have c8 := fun G => loaded_nil (G := G) t x v
  refine Pure.of mixedOk (fn := f_law_CoreNil) (by kernel_rfl) (by kernel_rfl) ok_law_CoreNil rfl fun C hP hG hp => goF ?_
  simp only [fs_law_CoreNil, targEnv, Nat.zero_add, Nat.reduceAdd]
  repeat' (first | refine goR rfl ?_ | refine goS rfl ?_ | refine tret1 rfl ?_ | refine tretN rfl ?_ | refine tr_guard_y rfl rfl ?_ | refine tr_guard_n rfl rfl ?_ | refine ts_cond_t rfl rfl ?_ | refine ts_cond_f rfl rfl ?_ | refine tr_callA rfl (by rw [hP]; exact c1 _) rfl ?_ | refine tr_callA rfl (by rw [hP]; exact c2 _) rfl ?_ | refine tr_callL rfl (.cons (.fr rfl) (.cons (.aggL (.cons (.nil 3) (.cons (.nil 1) .nil))) .nil)) (by rw [hP]; exact c3 _) rfl ?_ | refine tr_callA rfl (by rw [hP]; exact c4 _) rfl ?_ | refine tr_callL rfl (.cons (.fr rfl) (.cons (.aggL (.cons (.nil 1) (.cons (.nil 16) (.cons (.nil 1) (.cons (.fr rfl) .nil))))) .nil)) (by rw [hP]; exact c5 _) rfl ?_ | refine tr_callA rfl (by rw [hP]; exact c6 _) rfl ?_ | refine tr_callA rfl (by rw [hP]; exact c7 _) rfl ?_ | refine tr_callA rfl (by rw [hP]; exact c8 _) rfl ?_ | refine tr_callA rfl (by rw [hP, hG]; exact alive_spec) rfl ?_ | refine tr_light (tl_eqT (by rw [hP]; exact sh_deed) (by rw [hP]; exact ag_deed) (by rw [hP]; exact eg_deed) rfl rfl rfl rfl rfl) ?_ | refine tr_light (tl_eqT (by rw [hP]; exact sh_thr) (by rw [hP]; exact ag_thr) (by rw [hP]; exact eg_thr) rfl rfl rfl rfl rfl) ?_ | fail)
  exact .fr rfl
theorem coreMakes (p : Prg) (l : List (List Act)) : Pure prog Tabs n_law_CoreMakes [.agg (cPrg p), cActs l] (tB true) := by
  obtain ⟨q, hq, ho, hc, c1, h3, _⟩ := book_of l 6 (by decide)
  have g1 := fun G => great_spec (G := G) p
  have c2 := make_spec q ho hc
  obtain ⟨k1, k2, k3, _⟩ := check_syms hc
  have hst : okS (start0 q) := ⟨by have := start_len q.syms k3; show (startF q.syms).length ≤ _; omega, by show (List.replicate _ _).length ≤ _; rw [List.length_replicate]; omega, Nat.zero_le _, fun s hs => by cases hs⟩
  have c3 := fun G => progP_spec (G := G) q ho
  have c4 := fun G => sameProg_spec (G := G) q ho
  have c5 := fun G => startS_spec (G := G) q hst
  have c6 : ∀ G, Pure prog G n_ref2_Begin [.agg (cPrg q), tI 0] (.agg (cState (start0 q))) := fun G => begin_spec q k1 k2 k3 0 (by decide)
  have c7 := fun G => sameSt_spec (G := G) (start0 q) hst
  generalize start0 q = s0 at c5 c6 c7
  refine Pure.of mixedOk (fn := f_law_CoreMakes) (by kernel_rfl) (by kernel_rfl) ok_law_CoreMakes rfl fun C hP hG hp => goF ?_
  simp only [fs_law_CoreMakes, targEnv, Nat.zero_add, Nat.reduceAdd]
  cases hg : greatP p with
  | true =>
    rw [hg] at g1
    repeat' (first | refine goR rfl ?_ | refine goS rfl ?_ | refine tret1 rfl ?_ | refine tretN rfl ?_ | refine tr_guard_y rfl rfl ?_ | refine tr_guard_n rfl rfl ?_ | refine ts_cond_t rfl rfl ?_ | refine ts_cond_f rfl rfl ?_ | refine tr_callA rfl (by rw [hP]; exact g1 _) rfl ?_ | refine tr_callA rfl (by rw [hP, hG]; exact alive_spec) rfl ?_ | fail)
    exact .fr rfl
  | false =>
    rw [hg] at g1
    have hop := great_ok hg
    have g3 := check_spec2 p hop
    by_cases hcp : checkC p = 0
    · have g2 := make_spec p hop hcp
      rw [hcp] at g3
      repeat' (first | refine goR rfl ?_ | refine goS rfl ?_ | refine tret1 rfl ?_ | refine tretN rfl ?_ | refine tr_guard_y rfl rfl ?_ | refine tr_guard_n rfl rfl ?_ | refine ts_cond_t rfl rfl ?_ | refine ts_cond_f rfl rfl ?_ | refine tr_callA rfl (by rw [hP]; exact g1 _) rfl ?_ | refine tr_callA rfl (by rw [hP, hG]; exact g2) rfl ?_ | refine tr_callA rfl (by rw [hP, hG]; exact g3) rfl ?_ | refine tr_light (tl_neb (by rw [hP]; exact ut_bool) rfl rfl) ?_ | refine tr_callA rfl (by rw [hP]; exact c1 _) rfl ?_ | refine tr_callA rfl (by rw [hP, hG]; exact c2) rfl ?_ | refine tr_callA rfl (by rw [hP]; exact c3 _) rfl ?_ | refine tr_callA rfl (by rw [hP]; exact c4 _) rfl ?_ | refine tr_callA rfl (by rw [hP]; exact c5 _) rfl ?_ | refine tr_callA rfl (by rw [hP]; exact c6 _) rfl ?_ | refine tr_callA rfl (by rw [hP]; exact c7 _) rfl ?_ | refine tr_callA rfl (by rw [hP, hG]; exact alive_spec) rfl ?_ | fail)
      exact .fr rfl
    · have g2 := make_no p hop hcp
      generalize checkC p = k at g3 hcp
      have hk : decide (k = 0) = false := decide_eq_false hcp
      repeat' (first | refine goR rfl ?_ | refine goS rfl ?_ | refine tret1 rfl ?_ | refine tretN rfl ?_ | refine tr_guard_y rfl rfl ?_ | refine tr_guard_n rfl rfl ?_ | refine ts_cond_t rfl rfl ?_ | refine ts_cond_f rfl rfl ?_ | refine tr_callA rfl (by rw [hP]; exact g1 _) rfl ?_ | refine tr_callA rfl (by rw [hP, hG]; exact g2) rfl ?_ | refine tr_callA rfl (by rw [hP, hG]; exact g3) rfl ?_ | (refine tr_light (tl_neb (by rw [hP]; exact ut_bool) rfl rfl) ?_; rw [hk]) | refine tr_callA rfl (by rw [hP]; exact c1 _) rfl ?_ | refine tr_callA rfl (by rw [hP, hG]; exact c2) rfl ?_ | refine tr_callA rfl (by rw [hP]; exact c3 _) rfl ?_ | refine tr_callA rfl (by rw [hP]; exact c4 _) rfl ?_ | refine tr_callA rfl (by rw [hP]; exact c5 _) rfl ?_ | refine tr_callA rfl (by rw [hP]; exact c6 _) rfl ?_ | refine tr_callA rfl (by rw [hP]; exact c7 _) rfl ?_ | refine tr_callA rfl (by rw [hP, hG]; exact alive_spec) rfl ?_ | ((first | refine tg_split rfl (fun h => ?_) (fun h => ?_) | refine ts_cond rfl (fun h => ?_) (fun h => ?_)) <;> (try simp only [decide_eq_true_eq, decide_eq_false_iff_not, Bool.not_eq_true', Bool.not_eq_false', Bool.not_true, Bool.not_false, Bool.not_not, beq_iff_eq, Bool.not_eq_true, Bool.not_eq_false] at h) <;> try (exfalso; omega; done)) | fail)
      exact .fr rfl
theorem coreEach (l : List (List Act)) (x : Thr) (hx : thrR x) (v : Int) : Pure prog Tabs n_law_CoreEach [cActs l, .agg (cThr x), tI v] (tB true) := by
  obtain ⟨p, _, ho, hc, c1, h3, h4⟩ := book_of l 8 (by decide)
  have c2 := make_spec p ho hc
  obtain ⟨y, hy, c4⟩ := thr_of x hx 0 (by decide) false
  refine Pure.of mixedOk (fn := f_law_CoreEach) (by kernel_rfl) (by kernel_rfl) ok_law_CoreEach rfl fun C hP hG hp => goF ?_
  simp only [fs_law_CoreEach, targEnv, Nat.zero_add, Nat.reduceAdd]
  repeat' (first | refine goR rfl ?_ | refine goS rfl ?_ | refine tret1 rfl ?_ | refine tretN rfl ?_ | refine tr_guard_y rfl rfl ?_ | refine tr_guard_n rfl rfl ?_ | refine ts_cond_t rfl rfl ?_ | refine ts_cond_f rfl rfl ?_ | refine tr_callA rfl (by rw [hP]; exact c1 _) rfl ?_ | refine tr_callA rfl (by rw [hP, hG]; exact c2) rfl ?_ | refine tr_callA rfl (by rw [hP]; exact c4 _) rfl ?_ | fail)
  refine loopS (fun m env σ => ∃ a b z, p.threads = a ++ b ∧ m = b.length ∧ thrR z ∧ env = [(2, tI v), (4, .p 0 0), (7, .p 1 0), (8, .fp (cCore p) 0), (9, tI a.length)] ∧ σ = ⟨[(0, .cells (cThr z) ty_api_Thr), (1, .cells (cPrg p) ty_api_Prog)], 2⟩) p.threads.length ?_ ⟨[], p.threads, { y with st := 0 }, rfl, rfl, thrR_pc hy _ _ _ _ _, rfl, rfl⟩ ?_
  · (refine w_ren [(0, 0), (1, 1)] rfl (by rw [hp]; intro j hj; cases hj) rfl ?_ ?_ <;> repeat' (first | exact .nil | exact .f _ rfl | exact .s _ _ _ _ _ _ rfl | exact .p _ _ _ rfl | exact .rows _ _ _ | exact .iter _ _ | exact RenL.nil _ | refine RenL.cons ?_ ?_ | refine .cells _ _ _ ?_ | refine .cons _ _ _ _ rfl ?_ ?_ | refine .cons _ _ _ _ _ rfl rfl ?_ ?_ | refine .rowsE ?_ | refine .sE rfl ?_ | exact .m _ _ rfl | refine .fE rfl ?_ | exact RenO.mapB _ | exact RenO.mapB [] | fail))
  rintro m env σ ⟨a, b, z, e, rfl, hz, rfl, rfl⟩
  have hla : p.threads.length = a.length + b.length := by rw [e, List.length_append]
  cases b with
  | nil =>
    rw [List.length_nil] at hla
    repeat' (first | refine goR rfl ?_ | refine goS rfl ?_ | refine tret1 rfl ?_ | refine tretN rfl ?_ | refine tr_guard_y rfl rfl ?_ | refine tr_guard_n rfl rfl ?_ | refine ts_cond_t rfl rfl ?_ | refine ts_cond_f rfl rfl ?_ | refine ts_cond_f rfl (decide_eq_false (by rw [List.length_map]; omega)) ?_ | refine tr_callA rfl (by rw [hP, hG]; exact alive_spec) rfl ?_ | fail)
    exact .fr rfl
  | cons r b =>
    have hx : p.threads[a.length]? = some r := by rw [e]; exact ix
    simp only [List.length_cons] at hla
    obtain ⟨h5, h6⟩ := h4 r (by rw [e]; simp)
    repeat' (first | refine goR rfl ?_ | refine goS rfl ?_ | refine tret1 rfl ?_ | refine tretN rfl ?_ | refine tr_guard_y rfl rfl ?_ | refine tr_guard_n rfl rfl ?_ | refine ts_cond_t rfl rfl ?_ | refine ts_cond_f rfl rfl ?_ | refine ts_cond_t rfl (decide_eq_true (by rw [List.length_map]; omega)) ?_ | fail)
    refine loopS (fun m env σ => ∃ c z, c ≤ r.length ∧ m = r.length - c ∧ thrR z ∧ env = [(2, tI v), (4, .p 0 0), (7, .p 1 0), (8, .fp (cCore p) 0), (9, tI a.length), (10, tI (c : Nat))] ∧ σ = ⟨[(0, .cells (cThr z) ty_api_Thr), (1, .cells (cPrg p) ty_api_Prog)], 2⟩) r.length ?_ ⟨0, z, by omega, rfl, hz, rfl, rfl⟩ ?_
    · (refine w_ren [(0, 0), (1, 1)] rfl (by rw [hp]; intro j hj; cases hj) rfl ?_ ?_ <;> repeat' (first | exact .nil | exact .f _ rfl | exact .s _ _ _ _ _ _ rfl | exact .p _ _ _ rfl | exact .rows _ _ _ | exact .iter _ _ | exact RenL.nil _ | refine RenL.cons ?_ ?_ | refine .cells _ _ _ ?_ | refine .cons _ _ _ _ rfl ?_ ?_ | refine .cons _ _ _ _ _ rfl rfl ?_ ?_ | refine .rowsE ?_ | refine .sE rfl ?_ | exact .m _ _ rfl | refine .fE rfl ?_ | exact RenO.mapB _ | exact RenO.mapB [] | fail))
    rintro m env σ ⟨c, z, hcl, rfl, hz, rfl, rfl⟩
    by_cases hlt : c < r.length
    · repeat' (first | refine goR rfl ?_ | refine goS rfl ?_ | refine tret1 rfl ?_ | refine tretN rfl ?_ | refine tr_guard_y rfl rfl ?_ | refine tr_guard_n rfl rfl ?_ | refine ts_cond_t rfl rfl ?_ | refine ts_cond_f rfl rfl ?_ | refine ts_cond_t rfl (decide_eq_true (by rw [List.length_map]; omega)) ?_ | refine tr_light (tl_ixm rfl rfl rfl hx) ?_ | fail)
      refine loopS (fun m env σ => ∃ k z, k ≤ 2 ∧ m = 2 - k ∧ thrR z ∧ env = [(2, tI v), (4, .p 0 0), (7, .p 1 0), (8, .fp (cCore p) 0), (9, tI a.length), (10, tI (c : Nat)), (11, tI (k : Nat))] ∧ σ = ⟨[(0, .cells (cThr z) ty_api_Thr), (1, .cells (cPrg p) ty_api_Prog)], 2⟩) 2 ?_ ⟨0, z, by omega, rfl, hz, rfl, rfl⟩ ?_
      · (refine w_ren [(0, 0), (1, 1)] rfl (by rw [hp]; intro j hj; cases hj) rfl ?_ ?_ <;> repeat' (first | exact .nil | exact .f _ rfl | exact .s _ _ _ _ _ _ rfl | exact .p _ _ _ rfl | exact .rows _ _ _ | exact .iter _ _ | exact RenL.nil _ | refine RenL.cons ?_ ?_ | refine .cells _ _ _ ?_ | refine .cons _ _ _ _ rfl ?_ ?_ | refine .cons _ _ _ _ _ rfl rfl ?_ ?_ | refine .rowsE ?_ | refine .sE rfl ?_ | exact .m _ _ rfl | refine .fE rfl ?_ | exact RenO.mapB _ | exact RenO.mapB [] | fail))
      rintro m env σ ⟨k, z, hk, rfl, hz, rfl, rfl⟩
      by_cases hk2 : k < 2
      · have ct := tells_spec p ho hc a.length { z with pc := c, ph := k } (thrR_pc hz _ _ _ _ _) v
        repeat' (first | refine goR rfl ?_ | refine goS rfl ?_ | refine tret1 rfl ?_ | refine tretN rfl ?_ | refine tr_guard_y rfl rfl ?_ | refine tr_guard_n rfl rfl ?_ | refine ts_cond_t rfl rfl ?_ | refine ts_cond_f rfl rfl ?_ | refine ts_cond_t rfl (decide_eq_true (by omega)) ?_ | refine tr_callA rfl (by rw [hP, hG]; exact ct) rfl ?_ | fail)
        refine again (m' := 2 - (k + 1)) (by omega) ?_ ⟨k + 1, { z with pc := c, ph := k }, by omega, rfl, thrR_pc hz _ _ _ _ _, rfl, rfl⟩
        (refine w_ren [(0, 0), (1, 1)] rfl (by rw [hp]; intro j hj; cases hj) rfl ?_ ?_ <;> repeat' (first | exact .nil | exact .f _ rfl | exact .s _ _ _ _ _ _ rfl | exact .p _ _ _ rfl | exact .rows _ _ _ | exact .iter _ _ | exact RenL.nil _ | refine RenL.cons ?_ ?_ | refine .cells _ _ _ ?_ | refine .cons _ _ _ _ rfl ?_ ?_ | refine .cons _ _ _ _ _ rfl rfl ?_ ?_ | refine .rowsE ?_ | refine .sE rfl ?_ | exact .m _ _ rfl | refine .fE rfl ?_ | exact RenO.mapB _ | exact RenO.mapB [] | fail))
        rw [w64 (by omega)]; rfl
      · repeat' (first | refine goR rfl ?_ | refine goS rfl ?_ | refine tret1 rfl ?_ | refine tretN rfl ?_ | refine tr_guard_y rfl rfl ?_ | refine tr_guard_n rfl rfl ?_ | refine ts_cond_t rfl rfl ?_ | refine ts_cond_f rfl rfl ?_ | refine ts_cond_f rfl (decide_eq_false (by omega)) ?_ | fail)
        refine again (m' := r.length - (c + 1)) (by omega) ?_ ⟨c + 1, z, by omega, rfl, hz, rfl, rfl⟩
        (refine w_ren [(0, 0), (1, 1)] rfl (by rw [hp]; intro j hj; cases hj) rfl ?_ ?_ <;> repeat' (first | exact .nil | exact .f _ rfl | exact .s _ _ _ _ _ _ rfl | exact .p _ _ _ rfl | exact .rows _ _ _ | exact .iter _ _ | exact RenL.nil _ | refine RenL.cons ?_ ?_ | refine .cells _ _ _ ?_ | refine .cons _ _ _ _ rfl ?_ ?_ | refine .cons _ _ _ _ _ rfl rfl ?_ ?_ | refine .rowsE ?_ | refine .sE rfl ?_ | exact .m _ _ rfl | refine .fE rfl ?_ | exact RenO.mapB _ | exact RenO.mapB [] | fail))
        rw [w64 (by omega)]; rfl
    · repeat' (first | refine goR rfl ?_ | refine goS rfl ?_ | refine tret1 rfl ?_ | refine tretN rfl ?_ | refine tr_guard_y rfl rfl ?_ | refine tr_guard_n rfl rfl ?_ | refine ts_cond_t rfl rfl ?_ | refine ts_cond_f rfl rfl ?_ | refine ts_cond_f rfl (decide_eq_false (by rw [List.length_map]; omega)) ?_ | refine tr_light (tl_ixm rfl rfl rfl hx) ?_ | fail)
      refine again (m' := b.length) (Nat.lt_succ_self _) ?_ ⟨a ++ [r], b, z, by rw [e]; simp, rfl, hz, rfl, rfl⟩
      (refine w_ren [(0, 0), (1, 1)] rfl (by rw [hp]; intro j hj; cases hj) rfl ?_ ?_ <;> repeat' (first | exact .nil | exact .f _ rfl | exact .s _ _ _ _ _ _ rfl | exact .p _ _ _ rfl | exact .rows _ _ _ | exact .iter _ _ | exact RenL.nil _ | refine RenL.cons ?_ ?_ | refine .cells _ _ _ ?_ | refine .cons _ _ _ _ rfl ?_ ?_ | refine .cons _ _ _ _ _ rfl rfl ?_ ?_ | refine .rowsE ?_ | refine .sE rfl ?_ | exact .m _ _ rfl | refine .fE rfl ?_ | exact RenO.mapB _ | exact RenO.mapB [] | fail))
      all_goals first | rfl | (rw [w64 (by omega), List.length_append, List.length_singleton]; rfl) | (rw [List.length_append]; rfl) | (rw [List.map_append]; rfl) | rw [List.length_map] | rw [List.append_nil] | skip
end
end Go.Proofs.YtlmgfhonaegnlaaDoor
