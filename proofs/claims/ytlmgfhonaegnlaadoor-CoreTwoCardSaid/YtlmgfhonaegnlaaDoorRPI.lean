/-
  Walks of functions of the program, and what the laws need of them.
-/
import Derived.Test.YtlmgfhonaegnlaaDoorRPH
set_option linter.all false
set_option linter.unusedSimpArgs false
set_option linter.unusedVariables false
set_option linter.unnecessarySimpa false
namespace Go.Proofs.YtlmgfhonaegnlaaDoor
set_option maxRecDepth 20000
open Go Go.Proofs.YtlmgfhonaegnlaaDoor.V Go.Proofs
theorem cur_none {p : Prg} {t : Int} {x : Thr} (h : curI p t x = none) : nextW p t x = ⟨0, 0, 0⟩ ∧ localW p t x = x := ⟨by rw [nextW, h], by rw [localW, h]⟩
theorem cur_st {p : Prg} {t : Int} {x : Thr} (h : x.st ≠ 0) : curI p t x = none := by
  unfold curI
  rw [if_neg (fun h2 => h h2.1)]
theorem trap_local {p : Prg} {t : Int} {x : Thr} (h : (nextW p t x).kind = 6) : localW p t { x with st := 0 } = { x with st := 2 } := by
  have hs : x.st = 0 := by
    by_cases hs : x.st = 0
    · exact hs
    · rw [(cur_none (cur_st hs)).1] at h; cases h
  have e : ({ x with st := 0 } : Thr) = x := by cases x; simp only at hs; rw [hs]
  rw [e]
  cases hc : curI p t x with
  | none => rw [(cur_none hc).1] at h; cases h
  | some i =>
    unfold nextW at h
    rw [hc] at h
    simp only at h
    unfold localW
    rw [hc]
    simp only
    split at h
    · rename_i hph
      rw [if_pos hph, localI, if_pos h]
    · cases h
theorem no_thr {p : Prg} {t : Int} {x : Thr} (h : p.threads.length = 0) : curI p t x = none := by
  have : getT p t = none := by
    unfold getT
    split
    · exact List.getElem?_eq_none (by omega)
    · rfl
  unfold curI
  rw [this]
  split <;> rfl
section
attribute [local irreducible] TwS TwR thenT inBlockT retT nextW localW loadedW swapW
theorem coreStops (l : List (List Act)) (t : Int) (x : Thr) (hx : thrR x) : Pure prog Tabs n_law_CoreStops [cActs l, tI t, .agg (cThr x)] (tB true) := by
  obtain ⟨p, _, ho, hc, c1, h3, h4⟩ := book_of l 8 (by decide)
  have c2 := make_spec p ho hc
  have hl : (p.threads.map cTh).length = p.threads.length := List.length_map ..
  refine Pure.of mixedOk (fn := f_law_CoreStops) (by kernel_rfl) (by kernel_rfl) ok_law_CoreStops rfl fun C hP hG hp => goF ?_
  simp only [fs_law_CoreStops, targEnv, Nat.zero_add, Nat.reduceAdd]
  by_cases hz : p.threads.length = 0
  · have n1 := next_spec p ho hc t x hx
    have n2 := localP_spec p ho hc t x hx
    obtain ⟨e1, e2⟩ := cur_none (no_thr (t := t) (x := x) hz)
    rw [e1] at n1
    rw [e2] at n2
    repeat' (first | refine goR rfl ?_ | refine goS rfl ?_ | refine tret1 rfl ?_ | refine tretN rfl ?_ | refine tr_guard_y rfl rfl ?_ | refine tr_guard_n rfl rfl ?_ | refine ts_cond_t rfl rfl ?_ | refine ts_cond_f rfl rfl ?_ | refine tr_callA rfl (by rw [hP]; exact c1 _) rfl ?_ | refine tr_callA rfl (by rw [hP, hG]; exact c2) rfl ?_ | refine tr_callA rfl (by rw [hP, hG]; exact n1) rfl ?_ | refine tr_callA rfl (by rw [hP, hG]; exact n2) rfl ?_ | refine tr_callA rfl (by rw [hP, hG]; exact alive_spec) rfl ?_ | refine tr_light (tl_eqT (by rw [hP]; exact sh_deed) (by rw [hP]; exact ag_deed) (by rw [hP]; exact eg_deed) rfl rfl rfl rfl rfl) ?_ | refine tr_light (tl_eqT (by rw [hP]; exact sh_thr) (by rw [hP]; exact ag_thr) (by rw [hP]; exact eg_thr) rfl rfl rfl rfl rfl) ?_ | ((first | refine tg_split rfl (fun h => ?_) (fun h => ?_) | refine ts_cond rfl (fun h => ?_) (fun h => ?_)) <;> (try simp only [decide_eq_true_eq, decide_eq_false_iff_not, Bool.not_eq_true', Bool.not_eq_false', Bool.not_true, Bool.not_false, Bool.not_not, beq_iff_eq, Bool.not_eq_true, Bool.not_eq_false] at h) <;> try (exfalso; omega; done)) | fail)
    exact .fr rfl
  obtain ⟨m, hm⟩ : ∃ m, p.threads.length = m + 1 := ⟨p.threads.length - 1, by omega⟩
  obtain ⟨k, hk, hkl⟩ : ∃ k : Nat, t % ((m + 1 : Nat) : Int) = k ∧ k < m + 1 := ⟨(t % ((m + 1 : Nat) : Int)).toNat, by have := Int.emod_nonneg t (b := ((m + 1 : Nat) : Int)) (by omega); omega, by have := Int.emod_lt_of_pos t (b := ((m + 1 : Nat) : Int)) (by omega); have := Int.emod_nonneg t (b := ((m + 1 : Nat) : Int)) (by omega); omega⟩
  have c3 : ∀ G, Pure prog G n_book_Pick [tI t, tI ((p.threads.map cTh).length : Nat)] (tI (k : Nat)) := fun G => by
    rw [hl, hm, ← hk]
    exact pick_spec t m (by omega)
  have hr : p.threads[k]? = some p.threads[k] := List.getElem?_eq_getElem (by omega)
  obtain ⟨r, hrd⟩ : ∃ r, r = p.threads[k] := ⟨_, rfl⟩
  rw [← hrd] at hr
  obtain ⟨h5, h6⟩ := h4 r (by rw [hrd]; exact List.getElem_mem _)
  obtain ⟨n, hn⟩ : ∃ n, r.length = n + 1 := ⟨r.length - 1, by omega⟩
  have hrl : (r.map cIns).length = r.length := List.length_map ..
  have c4 : ∀ G, Pure prog G n_book_Thr [.agg (cThr x), tI ((r.map cIns).length : Nat), tB false] (.agg (cThr (thrO x n))) := fun G => by
    rw [hrl, hn]
    exact thrO_spec x n (by omega)
  have hy := thrO_in hx n
  generalize thrO x n = y at c4 hy
  have c5 : ∀ G, Pure prog G n_book_Pick [tI y.pc, tI 2] (tI (y.pc % 2)) := fun G => pick_spec y.pc 1 (by decide)
  have e1 : IntKind.i64.wrap (1 + y.pc % 2) = 1 + y.pc % 2 := w64 (by omega)
  have hy1 := thrR_pc hy y.f y.pc y.ph y.la (1 + y.pc % 2)
  have c6 := next_spec p ho hc k _ hy1
  have c7 := localP_spec p ho hc k _ hy1
  obtain ⟨g1, g2⟩ := cur_none (cur_st (p := p) (t := (k : Int)) (x := { y with st := 1 + y.pc % 2 }) (by show 1 + y.pc % 2 ≠ 0; omega))
  rw [g1] at c6
  rw [g2] at c7
  rw [← e1] at c6 c7
  have c8 := next_spec p ho hc k y hy
  by_cases h6 : (nextW p k y).kind = 6
  · have c9 := localP_spec p ho hc k _ (thrR_pc hy y.f y.pc y.ph y.la 0)
    rw [trap_local h6] at c9
    generalize nextW p k y = d at c8 h6
    repeat' (first | refine goR rfl ?_ | refine goS rfl ?_ | refine tret1 rfl ?_ | refine tretN rfl ?_ | refine tr_guard_y rfl rfl ?_ | refine tr_guard_n rfl rfl ?_ | refine ts_cond_t rfl rfl ?_ | refine ts_cond_f rfl rfl ?_ | refine tr_callA rfl (by rw [hP]; exact c1 _) rfl ?_ | refine tr_callA rfl (by rw [hP, hG]; exact c2) rfl ?_ | refine tr_callA rfl (by rw [hP]; exact c3 _) rfl ?_ | refine tr_callA rfl (by rw [hP]; exact c4 _) rfl ?_ | refine tr_callA rfl (by rw [hP]; exact c5 _) rfl ?_ | refine tr_callA rfl (by rw [hP, hG]; exact c6) rfl ?_ | refine tr_callA rfl (by rw [hP, hG]; exact c7) rfl ?_ | refine tr_callA rfl (by rw [hP, hG]; exact c8) rfl ?_ | refine tr_callA rfl (by rw [hP, hG]; exact c9) rfl ?_ | refine tr_callA rfl (by rw [hP, hG]; exact alive_spec) rfl ?_ | refine tr_light (tl_ixm rfl rfl rfl hr) ?_ | refine tr_light (tl_neT (by rw [hP]; exact sh_deed) (by rw [hP]; exact ag_deed) (by rw [hP]; exact eg_deed) rfl rfl rfl rfl rfl) ?_ | refine tr_light (tl_neT (by rw [hP]; exact sh_thr) (by rw [hP]; exact ag_thr) (by rw [hP]; exact eg_thr) rfl rfl rfl rfl rfl) ?_ | refine tr_light (tl_eqT (by rw [hP]; exact sh_thr) (by rw [hP]; exact ag_thr) (by rw [hP]; exact eg_thr) rfl rfl rfl rfl rfl) ?_ | ((first | refine tg_split rfl (fun h => ?_) (fun h => ?_) | refine ts_cond rfl (fun h => ?_) (fun h => ?_)) <;> (try simp only [decide_eq_true_eq, decide_eq_false_iff_not, Bool.not_eq_true', Bool.not_eq_false', Bool.not_true, Bool.not_false, Bool.not_not, beq_iff_eq, Bool.not_eq_true, Bool.not_eq_false] at h) <;> try (exfalso; omega; done)) | fail)
    exact .fr rfl
  · generalize nextW p k y = d at c8 h6
    repeat' (first | refine goR rfl ?_ | refine goS rfl ?_ | refine tret1 rfl ?_ | refine tretN rfl ?_ | refine tr_guard_y rfl rfl ?_ | refine tr_guard_n rfl rfl ?_ | refine ts_cond_t rfl rfl ?_ | refine ts_cond_f rfl rfl ?_ | refine tr_callA rfl (by rw [hP]; exact c1 _) rfl ?_ | refine tr_callA rfl (by rw [hP, hG]; exact c2) rfl ?_ | refine tr_callA rfl (by rw [hP]; exact c3 _) rfl ?_ | refine tr_callA rfl (by rw [hP]; exact c4 _) rfl ?_ | refine tr_callA rfl (by rw [hP]; exact c5 _) rfl ?_ | refine tr_callA rfl (by rw [hP, hG]; exact c6) rfl ?_ | refine tr_callA rfl (by rw [hP, hG]; exact c7) rfl ?_ | refine tr_callA rfl (by rw [hP, hG]; exact c8) rfl ?_ | refine tr_callA rfl (by rw [hP, hG]; exact c9) rfl ?_ | refine tr_callA rfl (by rw [hP, hG]; exact alive_spec) rfl ?_ | refine tr_light (tl_ixm rfl rfl rfl hr) ?_ | refine tr_light (tl_neT (by rw [hP]; exact sh_deed) (by rw [hP]; exact ag_deed) (by rw [hP]; exact eg_deed) rfl rfl rfl rfl rfl) ?_ | refine tr_light (tl_neT (by rw [hP]; exact sh_thr) (by rw [hP]; exact ag_thr) (by rw [hP]; exact eg_thr) rfl rfl rfl rfl rfl) ?_ | refine tr_light (tl_eqT (by rw [hP]; exact sh_thr) (by rw [hP]; exact ag_thr) (by rw [hP]; exact eg_thr) rfl rfl rfl rfl rfl) ?_ | ((first | refine tg_split rfl (fun h => ?_) (fun h => ?_) | refine ts_cond rfl (fun h => ?_) (fun h => ?_)) <;> (try simp only [decide_eq_true_eq, decide_eq_false_iff_not, Bool.not_eq_true', Bool.not_eq_false', Bool.not_true, Bool.not_false, Bool.not_not, beq_iff_eq, Bool.not_eq_true, Bool.not_eq_false] at h) <;> try (exfalso; omega; done)) | fail)
    exact .fr rfl
end
end Go.Proofs.YtlmgfhonaegnlaaDoor
