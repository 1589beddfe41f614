/-
  Walks of functions of the program, and what the laws need of them.
-/
import Derived.Test.YtlmgfhonaegnlaaDoorRPI
set_option linter.all false
set_option linter.unusedSimpArgs false
set_option linter.unusedVariables false
set_option linter.unnecessarySimpa false
namespace Go.Proofs.YtlmgfhonaegnlaaDoor
set_option maxRecDepth 20000
open Go Go.Proofs.YtlmgfhonaegnlaaDoor.V Go.Proofs
def pC : Prg := ⟨[⟨bs [120], 1, []⟩], [[⟨9, true, 0, ⟨3, 0, 0, 0⟩, ⟨1, 2, 0, 0⟩, bs [], []⟩, hltI]]⟩
def xC (a w : Int) : Thr := { zThr with r0 := a, r2 := w }
theorem pC_ok : checkC pC = 0 := by kernel_rfl
theorem pC_okP : okP pC := by
  refine okP_small (by decide) ?_ (by decide) ?_
  · intro s hs; simp only [pC, List.mem_singleton] at hs; subst hs; decide
  · intro t ht
    simp only [pC, List.mem_singleton] at ht
    subst ht
    refine ⟨by decide, by decide, ?_⟩
    intro i hi
    simp only [List.mem_cons, List.not_mem_nil, or_false] at hi
    rcases hi with rfl | rfl
    · exact ⟨by decide, by decide, fun l hl => by cases hl⟩
    · exact ⟨by decide, by decide, fun l hl => by cases hl⟩
theorem xC_in {a w : Int} (ha : inR a) (hw : inR w) : thrR (xC a w) := ⟨ha, zThr_in.h1, hw, zThr_in.h3, zThr_in.h4, zThr_in.h5, zThr_in.h6, zThr_in.h7⟩
theorem pC_swap (a v w : Int) : swapW pC 0 (xC a w) v = if a = v then ({ xC a w with pc := 1, f := (doW 7 a v).2.1 }, w, true) else ({ xC a w with pc := 1, f := (doW 7 a v).2.1, r0 := v }, 0, false) := by
  have h1 : curI pC 0 (xC a w) = some ⟨9, true, 0, ⟨3, 0, 0, 0⟩, ⟨1, 2, 0, 0⟩, bs [], []⟩ := by rfl
  rw [swapW, h1]
  rfl
theorem cmp_z (a : Int) : (doW 7 a a).2.1.z = true := by
  show decide (i64 (a - a) = 0) = true
  rw [Int.sub_self]; rfl
section
attribute [local irreducible] TwS TwR thenT inBlockT retT nextW localW loadedW swapW doW
theorem cmp_run (a v0 v w : Int) (same : Bool) (ha : inR a) (hw : inR w) (hs : if same = true then v = a else v0 = v) : Pure prog Tabs n_law_CoreCompares [tI a, tI v0, tI w, tB same] (tB true) := by
  have c1 := make_spec pC pC_okP pC_ok
  have c2 := swap_spec pC pC_okP pC_ok 0 _ (xC_in ha hw) v
  rw [pC_swap] at c2
  have c3 := fun G => do_spec2 (G := G) 7 a v
  obtain ⟨fl, hfl⟩ : ∃ fl, fl = (doW 7 a v).2.1 := ⟨_, rfl⟩
  rw [← hfl] at c2 c3
  generalize (doW 7 a v).1 = d1 at c3
  generalize (doW 7 a v).2.2 = d2 at c3
  have hz : a = v → fl.z = true := fun e => by rw [hfl, ← e]; exact cmp_z a
  clear hfl
  obtain ⟨fz, fs, fc, fo⟩ := fl
  refine Pure.of mixedOk (fn := f_law_CoreCompares) (by kernel_rfl) (by kernel_rfl) ok_law_CoreCompares rfl fun C hP hG hp => goF ?_
  simp only [fs_law_CoreCompares, targEnv, Nat.zero_add, Nat.reduceAdd]
  by_cases he : a = v
  · have hz := hz he
    simp only at hz
    subst hz
    rw [if_pos he] at c2
    dsimp only at c2
    cases same
    all_goals
      simp only [if_true, Bool.false_eq_true, if_false] at hs
      subst hs
      try subst he
      repeat' (first | refine goR rfl ?_ | refine goS rfl ?_ | refine tret1 rfl ?_ | refine tretN rfl ?_ | refine tr_guard_y rfl rfl ?_ | refine tr_guard_n rfl rfl ?_ | refine ts_cond_t rfl rfl ?_ | refine ts_cond_f rfl rfl ?_ | fail)
      refine tr_weak ((w_rowsA (k := 0) (ys := pC.syms.map cSym) rfl (by rfl) (by intro h; cases h) (by decide) (by repeat' (first | exact .nil | refine .cons ?_ ?_ | exact .nil 1 | exact .refl _))).trans ((w_rowsA (k := 1) (ys := [cIns ⟨9, true, 0, ⟨3, 0, 0, 0⟩, ⟨1, 2, 0, 0⟩, bs [], []⟩, cIns hltI]) rfl (by rfl) (by intro h; cases h) (by decide) (by repeat' (first | exact .nil | refine .cons ?_ ?_ | exact .nil 1 | exact .refl _))).trans (w_freeze (d := 24) (k := 1) rfl rfl (.aggL (.cons (.s 2 true rfl) .nil))))) ?_
      repeat' (first | refine goR rfl ?_ | refine goS rfl ?_ | refine tret1 rfl ?_ | refine tretN rfl ?_ | refine tr_guard_y rfl rfl ?_ | refine tr_guard_n rfl rfl ?_ | refine ts_cond_t rfl rfl ?_ | refine ts_cond_f rfl rfl ?_ | fail)
      refine tr_weak ((w_freeze (d := 27) (k := 0) rfl rfl (.aggL (.cons (.s 1 true rfl) (.cons (.refl _) .nil)))).trans (w_freeze (d := 27) (k := 2) rfl rfl (.aggL (.cons (.refl _) (.cons (.s 1 true rfl) .nil))))) ?_
      repeat' (first | refine goR rfl ?_ | refine goS rfl ?_ | refine tret1 rfl ?_ | refine tretN rfl ?_ | refine tr_guard_y rfl rfl ?_ | refine tr_guard_n rfl rfl ?_ | refine ts_cond_t rfl rfl ?_ | refine ts_cond_f rfl rfl ?_ | refine tr_light (tl_iaAp rfl rfl (by decide)) ?_ | refine tr_callA rfl (by rw [hP, hG]; exact c1) rfl ?_ | refine tr_callA rfl (by rw [hP, hG]; exact c2) rfl ?_ | refine tr_callA rfl (by rw [hP]; exact c3 _) rfl ?_ | refine tr_callA rfl (by rw [hP, hG]; exact alive_spec) rfl ?_ | refine tr_light (tl_eqT (by rw [hP]; exact sh_thr) (by rw [hP]; exact ag_thr) (by rw [hP]; exact eg_thr) rfl rfl rfl rfl rfl) ?_ | ((first | refine tg_split rfl (fun h => ?_) (fun h => ?_) | refine ts_cond rfl (fun h => ?_) (fun h => ?_)) <;> (try simp only [decide_eq_true_eq, decide_eq_false_iff_not, Bool.not_eq_true', Bool.not_eq_false', Bool.not_true, Bool.not_false, Bool.not_not, beq_iff_eq, Bool.not_eq_true, Bool.not_eq_false] at h) <;> try (exfalso; first | omega | exact h rfl | exact h trivial | exact absurd h (by decide) | (exfalso; simp at h); done)) | fail)
      exact .fr rfl
  · rw [if_neg he] at c2
    dsimp only at c2
    cases same
    rotate_left
    · exact absurd hs.symm he
    · simp only [Bool.false_eq_true, if_false] at hs
      subst hs
      repeat' (first | refine goR rfl ?_ | refine goS rfl ?_ | refine tret1 rfl ?_ | refine tretN rfl ?_ | refine tr_guard_y rfl rfl ?_ | refine tr_guard_n rfl rfl ?_ | refine ts_cond_t rfl rfl ?_ | refine ts_cond_f rfl rfl ?_ | fail)
      refine tr_weak ((w_rowsA (k := 0) (ys := pC.syms.map cSym) rfl (by rfl) (by intro h; cases h) (by decide) (by repeat' (first | exact .nil | refine .cons ?_ ?_ | exact .nil 1 | exact .refl _))).trans ((w_rowsA (k := 1) (ys := [cIns ⟨9, true, 0, ⟨3, 0, 0, 0⟩, ⟨1, 2, 0, 0⟩, bs [], []⟩, cIns hltI]) rfl (by rfl) (by intro h; cases h) (by decide) (by repeat' (first | exact .nil | refine .cons ?_ ?_ | exact .nil 1 | exact .refl _))).trans (w_freeze (d := 24) (k := 1) rfl rfl (.aggL (.cons (.s 2 true rfl) .nil))))) ?_
      repeat' (first | refine goR rfl ?_ | refine goS rfl ?_ | refine tret1 rfl ?_ | refine tretN rfl ?_ | refine tr_guard_y rfl rfl ?_ | refine tr_guard_n rfl rfl ?_ | refine ts_cond_t rfl rfl ?_ | refine ts_cond_f rfl rfl ?_ | fail)
      refine tr_weak ((w_freeze (d := 27) (k := 0) rfl rfl (.aggL (.cons (.s 1 true rfl) (.cons (.refl _) .nil)))).trans (w_freeze (d := 27) (k := 2) rfl rfl (.aggL (.cons (.refl _) (.cons (.s 1 true rfl) .nil))))) ?_
      repeat' (first | refine goR rfl ?_ | refine goS rfl ?_ | refine tret1 rfl ?_ | refine tretN rfl ?_ | refine tr_guard_y rfl rfl ?_ | refine tr_guard_n rfl rfl ?_ | refine ts_cond_t rfl rfl ?_ | refine ts_cond_f rfl rfl ?_ | refine tr_light (tl_iaAp rfl rfl (by decide)) ?_ | refine tr_callA rfl (by rw [hP, hG]; exact c1) rfl ?_ | refine tr_callA rfl (by rw [hP, hG]; exact c2) rfl ?_ | refine tr_callA rfl (by rw [hP]; exact c3 _) rfl ?_ | refine tr_callA rfl (by rw [hP, hG]; exact alive_spec) rfl ?_ | refine tr_light (tl_eqT (by rw [hP]; exact sh_thr) (by rw [hP]; exact ag_thr) (by rw [hP]; exact eg_thr) rfl rfl rfl rfl rfl) ?_ | ((first | refine tg_split rfl (fun h => ?_) (fun h => ?_) | refine ts_cond rfl (fun h => ?_) (fun h => ?_)) <;> (try simp only [decide_eq_true_eq, decide_eq_false_iff_not, Bool.not_eq_true', Bool.not_eq_false', Bool.not_true, Bool.not_false, Bool.not_not, beq_iff_eq, Bool.not_eq_true, Bool.not_eq_false] at h) <;> try (exfalso; first | omega | exact h rfl | exact h trivial | exact absurd h (by decide) | (exfalso; simp at h); done)) | fail)
      exact .fr rfl
theorem coreCompares (a v w : Int) (same : Bool) (ha : inR a) (hw : inR w) : Pure prog Tabs n_law_CoreCompares [tI a, tI v, tI w, tB same] (tB true) := by
  refine cmp_run a v (if same = true then a else v) w same ha hw ?_
  cases same
  · exact rfl
  · exact rfl
end
end Go.Proofs.YtlmgfhonaegnlaaDoor
