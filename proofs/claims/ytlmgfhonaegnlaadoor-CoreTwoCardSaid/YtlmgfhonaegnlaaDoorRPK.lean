/-
  Walks of functions of the program, and what the laws need of them.
-/
import Derived.Test.YtlmgfhonaegnlaaDoorRPJ
set_option linter.all false
set_option linter.unusedSimpArgs false
set_option linter.unusedVariables false
set_option linter.unnecessarySimpa false
namespace Go.Proofs.YtlmgfhonaegnlaaDoor
set_option maxRecDepth 20000
open Go Go.Proofs.YtlmgfhonaegnlaaDoor.V Go.Proofs
def insT (o : Int) (lk : Bool) (B : Opd) : Ins := ⟨o, lk, 0, ⟨3, 0, 0, 1⟩, B, bs [], []⟩
def pT (o : Int) (B : Opd) : Prg := ⟨[⟨bs [120], 2, []⟩], [[insT o false B, hltI], [insT o true B, hltI]]⟩
theorem pT_okP (o : Int) (B : Opd) : okP (pT o B) := by
  refine okP_small (Nat.le_of_ble_eq_true rfl) ?_ (Nat.le_of_ble_eq_true rfl) ?_
  · intro s hs; simp only [pT, List.mem_singleton] at hs; subst hs; decide
  · intro t ht
    simp only [pT, List.mem_cons, List.not_mem_nil, or_false] at ht
    rcases ht with rfl | rfl
    all_goals
      refine ⟨Nat.le_of_ble_eq_true rfl, Nat.le_of_ble_eq_true rfl, ?_⟩
      intro i hi
      simp only [List.mem_cons, List.not_mem_nil, or_false] at hi
      rcases hi with rfl | rfl
      · exact ⟨by show (bs []).size ≤ _; decide, Nat.zero_le _, fun l hl => by cases hl⟩
      · exact ⟨by decide, by decide, fun l hl => by cases hl⟩
def BOk (B : Opd) : Prop := (∃ b, B = ⟨2, 0, 0, b⟩) ∨ ∃ k : Int, B = ⟨1, k, 0, 0⟩ ∧ 0 ≤ k ∧ k ≤ 7
theorem pT_ok {o : Int} {B : Opd} (ho : 2 ≤ o ∧ o ≤ 6) (hB : BOk B) : checkC (pT o B) = 0 := by
  have h5 : o = 2 ∨ o = 3 ∨ o = 4 ∨ o = 5 ∨ o = 6 := by omega
  rcases hB with ⟨b, rfl⟩ | ⟨k, rfl, hk⟩
  · rcases h5 with rfl | rfl | rfl | rfl | rfl <;> rfl
  · have h8 : k = 0 ∨ k = 1 ∨ k = 2 ∨ k = 3 ∨ k = 4 ∨ k = 5 ∨ k = 6 ∨ k = 7 := by omega
    rcases h5 with rfl | rfl | rfl | rfl | rfl <;> rcases h8 with rfl | rfl | rfl | rfl | rfl | rfl | rfl | rfl <;> rfl
def xT (x : Thr) : Thr := { x with pc := 0, ph := 0, la := 0, st := 0 }
def yT (x : Thr) (v : Int) : Thr := { xT x with ph := 1, la := v }
def allT (Q : Int → Opd → Prop) : Prop := ∀ o, 2 ≤ o ∧ o ≤ 6 → ∀ B, BOk B → Q o B
theorem all_T {Q : Int → Opd → Prop} (h2 : ∀ b, Q 2 ⟨2, 0, 0, b⟩ ∧ Q 3 ⟨2, 0, 0, b⟩ ∧ Q 4 ⟨2, 0, 0, b⟩ ∧ Q 5 ⟨2, 0, 0, b⟩ ∧ Q 6 ⟨2, 0, 0, b⟩)
    (h1 : ∀ k, k = 0 ∨ k = 1 ∨ k = 2 ∨ k = 3 ∨ k = 4 ∨ k = 5 ∨ k = 6 ∨ k = 7 → Q 2 ⟨1, k, 0, 0⟩ ∧ Q 3 ⟨1, k, 0, 0⟩ ∧ Q 4 ⟨1, k, 0, 0⟩ ∧ Q 5 ⟨1, k, 0, 0⟩ ∧ Q 6 ⟨1, k, 0, 0⟩) : allT Q := by
  rintro o ho B hB
  have h5 : o = 2 ∨ o = 3 ∨ o = 4 ∨ o = 5 ∨ o = 6 := by omega
  have key : Q 2 B ∧ Q 3 B ∧ Q 4 B ∧ Q 5 B ∧ Q 6 B := by
    rcases hB with ⟨b, rfl⟩ | ⟨k, rfl, hk⟩
    · exact h2 b
    · exact h1 k (by omega)
  obtain ⟨k2, k3, k4, k5, k6⟩ := key
  rcases h5 with rfl | rfl | rfl | rfl | rfl
  · exact k2
  · exact k3
  · exact k4
  · exact k5
  · exact k6
theorem pT_step : allT fun o B => ∀ x v, stepW (pT o B) (insT o false B) (xT x) = ⟨2, 1, 0⟩ ∧ stepW (pT o B) (insT o false B) (yT x v) = ⟨3, 1, (doW o v (numW B (yT x v))).1⟩ ∧ stepW (pT o B) (insT o true B) (xT x) = ⟨4, 1, 0⟩ ∧
    partsI (insT o false B) = 2 := by
  refine all_T (fun b => ?_) fun k hk => ?_
  · exact ⟨fun x v => ⟨rfl, rfl, rfl, rfl⟩, fun x v => ⟨rfl, rfl, rfl, rfl⟩, fun x v => ⟨rfl, rfl, rfl, rfl⟩, fun x v => ⟨rfl, rfl, rfl, rfl⟩, fun x v => ⟨rfl, rfl, rfl, rfl⟩⟩
  · rcases hk with rfl | rfl | rfl | rfl | rfl | rfl | rfl | rfl
    all_goals exact ⟨fun x v => ⟨rfl, rfl, rfl, rfl⟩, fun x v => ⟨rfl, rfl, rfl, rfl⟩, fun x v => ⟨rfl, rfl, rfl, rfl⟩, fun x v => ⟨rfl, rfl, rfl, rfl⟩, fun x v => ⟨rfl, rfl, rfl, rfl⟩⟩
theorem pT_facts {o : Int} {B : Opd} (ho : 2 ≤ o ∧ o ≤ 6) (hB : BOk B) (x : Thr) (v : Int) : nextW (pT o B) 0 (xT x) = ⟨2, 1, 0⟩ ∧ loadedW (pT o B) 0 (xT x) v = yT x v ∧ nextW (pT o B) 0 (yT x v) = ⟨3, 1, (doW o v (numW B (xT x))).1⟩ ∧
    swapW (pT o B) 1 (xT x) v = ({ xT x with pc := 1, f := (doW o v (numW B (xT x))).2.1 }, (doW o v (numW B (xT x))).1, true) ∧ localW (pT o B) 0 (yT x v) = { xT x with pc := 1, f := (doW o v (numW B (xT x))).2.1 } := by
  obtain ⟨h1, h2, h3, h4⟩ := pT_step o ho B hB x v
  have hn : numW B (yT x v) = numW B (xT x) := rfl
  have c0 : curI (pT o B) 0 (xT x) = some (insT o false B) := rfl
  have c1 : curI (pT o B) 0 (yT x v) = some (insT o false B) := rfl
  have c2 : curI (pT o B) 1 (xT x) = some (insT o true B) := rfl
  have p0 : phB (insT o false B) (xT x) = true := rfl
  have p2 : phB (insT o true B) (xT x) = true := rfl
  have p1 : phB (insT o false B) (yT x v) = true := by rw [phB, h4]; rfl
  have q8 : ¬ (insT o true B).op = 8 := by show ¬ o = 8; omega
  have q9 : ¬ (insT o true B).op = 9 := by show ¬ o = 9; omega
  refine ⟨?_, ?_, ?_, ?_, ?_⟩
  · rw [nextW, c0]; simp only; rw [if_pos p0, h1]
  · rw [loadedW, c0]; simp only; rw [if_pos ⟨p0, by rw [h1]⟩, loadedI, if_pos h4]; rfl
  · rw [nextW, c1]; simp only; rw [if_pos p1, h2, hn]
  · rw [swapW, c2]; simp only; rw [if_pos ⟨p2, by rw [h3]⟩, swapI, if_neg q8, if_neg q9]; rfl
  · rw [localW, c1]; simp only; rw [if_pos p1, localI, h2]
    simp only
    rw [if_neg (by decide), if_neg (by decide), if_pos trivial, if_pos (show (yT x v).ph = 1 from rfl)]
    rfl
section
attribute [local irreducible] TwS TwR thenT inBlockT retT nextW localW loadedW swapW doW numW
set_option maxHeartbeats 1000000 in
theorem coreTwo (op b v reg : Int) (x : Thr) (hx : thrR x) : Pure prog Tabs n_law_CoreTwo [tI op, tI b, tI v, tI reg, .agg (cThr x)] (tB true) := by
  have c1 : ∀ G, Pure prog G n_book_Pick [tI op, tI 5] (tI (op % 5)) := fun G => pick_spec op 4 (by decide)
  have c2 : ∀ G, Pure prog G n_book_Pick [tI reg, tI 8] (tI (reg % 8)) := fun G => pick_spec reg 7 (by decide)
  have e1 : IntKind.i64.wrap (2 + op % 5) = 2 + op % 5 := w64 (by omega)
  obtain ⟨o, hoo⟩ : ∃ o, o = IntKind.i64.wrap (2 + op % 5) := ⟨_, rfl⟩
  have ho : 2 ≤ o ∧ o ≤ 6 := by rw [hoo, e1]; omega
  have key : ∀ B, BOk B → ∃ d : Int, ∃ f : Flags, Pure prog Tabs n_core_Make [.agg (cPrg (pT o B))] (.fp (cCore (pT o B)) 0) ∧ Pure prog Tabs n_core_Core_Next [.fp (cCore (pT o B)) 0, tI 0, .agg (cThr (xT x))] (.agg (cDeed ⟨2, 1, 0⟩)) ∧
      Pure prog Tabs n_core_Core_Loaded [.fp (cCore (pT o B)) 0, tI 0, .agg (cThr (xT x)), tI v] (.agg (cThr (yT x v))) ∧ Pure prog Tabs n_core_Core_Next [.fp (cCore (pT o B)) 0, tI 0, .agg (cThr (yT x v))] (.agg (cDeed ⟨3, 1, d⟩)) ∧
      Pure prog Tabs n_core_Core_Swap [.fp (cCore (pT o B)) 0, tI 1, .agg (cThr (xT x)), tI v] (.tup [.agg (cThr { xT x with pc := 1, f := f }), tI d, tB true]) ∧
      Pure prog Tabs n_core_Core_Local [.fp (cCore (pT o B)) 0, tI 0, .agg (cThr (yT x v))] (.agg (cThr { xT x with pc := 1, f := f })) := fun B hB => by
    have hx0 : thrR (xT x) := thrR_pc hx _ _ _ _ _
    have hy0 : thrR (yT x v) := thrR_pc hx _ _ _ _ _
    have hk := pT_okP o B
    have hc := pT_ok ho hB
    obtain ⟨f1, f2, f3, f4, f5⟩ := pT_facts ho hB x v
    have k1 := make_spec _ hk hc
    have k2 := next_spec _ hk hc 0 _ hx0
    have k3 := loaded_spec _ hk hc 0 _ hx0 v
    have k4 := next_spec _ hk hc 0 _ hy0
    have k5 := swap_spec _ hk hc 1 _ hx0 v
    have k6 := localP_spec _ hk hc 0 _ hy0
    rw [f1] at k2
    rw [f2] at k3
    rw [f3] at k4
    rw [f4] at k5
    rw [f5] at k6
    exact ⟨_, _, k1, k2, k3, k4, k5, k6⟩
  refine Pure.of mixedOk (fn := f_law_CoreTwo) (by kernel_rfl) (by kernel_rfl) ok_law_CoreTwo rfl fun C hP hG hp => goF ?_
  simp only [fs_law_CoreTwo, targEnv, Nat.zero_add, Nat.reduceAdd]
  repeat' (first | refine goR rfl ?_ | refine goS rfl ?_ | refine tret1 rfl ?_ | refine tretN rfl ?_ | refine tr_guard_y rfl rfl ?_ | refine tr_guard_n rfl rfl ?_ | refine ts_cond_t rfl rfl ?_ | refine ts_cond_f rfl rfl ?_ | refine tr_callA rfl (by rw [hP]; exact c1 _) rfl ?_ | refine tr_callA rfl (by rw [hP]; exact c2 _) rfl ?_ | ((first | refine tg_split rfl (fun h => ?_) (fun h => ?_) | refine ts_cond rfl (fun h => ?_) (fun h => ?_)) <;> try simp only [decide_eq_true_eq, decide_eq_false_iff_not, Bool.not_eq_true', Bool.not_eq_false', Bool.not_true, Bool.not_false, Bool.not_not, beq_iff_eq, Bool.not_eq_true, Bool.not_eq_false] at h) | fail)
  all_goals clear h
  all_goals rw [← hoo]
  all_goals clear hoo e1
  · skip
    obtain ⟨d, f, k1, k2, k3, k4, k5, k6⟩ := key ⟨1, reg % 8, 0, 0⟩ (.inr ⟨_, rfl, by omega, by omega⟩)
    refine tr_weak ((w_rowsA (k := 3) (ys := [cSym ⟨bs [120], 2, []⟩]) rfl (by rfl) (by intro h; cases h) (by decide) (by repeat' (first | exact .nil | refine .cons ?_ ?_ | exact .nil 1 | exact .refl _))).trans ((w_rowsA (k := 4) (ys := [cIns (insT o false ⟨1, reg % 8, 0, 0⟩), cIns hltI]) rfl (by rfl) (by intro h; cases h) (by intro y hy; simp only [List.mem_cons, List.not_mem_nil, or_false] at hy; rcases hy with rfl | rfl <;> rfl) (by repeat' (first | exact .nil | refine .cons ?_ ?_ | exact .nil 1 | exact .refl _))).trans ((w_rowsA (k := 5) (ys := [cIns (insT o true ⟨1, reg % 8, 0, 0⟩), cIns hltI]) rfl (by rfl) (by intro h; cases h) (by intro y hy; simp only [List.mem_cons, List.not_mem_nil, or_false] at hy; rcases hy with rfl | rfl <;> rfl) (by repeat' (first | exact .nil | refine .cons ?_ ?_ | exact .nil 1 | exact .refl _))).trans ((w_freeze (d := 41) (k := 4) rfl rfl (.aggL (.cons (.s 2 true rfl) .nil))).trans (w_freeze (d := 45) (k := 5) rfl rfl (.aggL (.cons (.s 2 true rfl) .nil))))))) ?_
    repeat' (first | refine goR rfl ?_ | refine goS rfl ?_ | refine tret1 rfl ?_ | refine tretN rfl ?_ | refine tr_guard_y rfl rfl ?_ | refine tr_guard_n rfl rfl ?_ | refine ts_cond_t rfl rfl ?_ | refine ts_cond_f rfl rfl ?_ | fail)
    refine tr_weak ((w_freeze (d := 48) (k := 3) rfl rfl (.aggL (.cons (.s 1 true rfl) (.cons (.refl _) .nil)))).trans (w_freeze (d := 48) (k := 6) rfl rfl (.aggL (.cons (.refl _) (.cons (.s 2 true rfl) .nil))))) ?_
    repeat' (first | refine goR rfl ?_ | refine goS rfl ?_ | refine tret1 rfl ?_ | refine tretN rfl ?_ | refine tr_guard_y rfl rfl ?_ | refine tr_guard_n rfl rfl ?_ | refine ts_cond_t rfl rfl ?_ | refine ts_cond_f rfl rfl ?_ | refine tr_callA rfl (by rw [hP, hG]; exact k1) rfl ?_ | refine tr_callA rfl (by rw [hP, hG]; exact k2) rfl ?_ | refine tr_callA rfl (by rw [hP, hG]; exact k3) rfl ?_ | refine tr_callA rfl (by rw [hP, hG]; exact k4) rfl ?_ | refine tr_callA rfl (by rw [hP, hG]; exact k5) rfl ?_ | refine tr_callA rfl (by rw [hP, hG]; exact k6) rfl ?_ | refine tr_callA rfl (by rw [hP, hG]; exact alive_spec) rfl ?_ | refine tr_light (tl_eqT (by rw [hP]; exact sh_deed) (by rw [hP]; exact ag_deed) (by rw [hP]; exact eg_deed) rfl rfl rfl rfl rfl) ?_ | refine tr_light (tl_eqT (by rw [hP]; exact sh_thr) (by rw [hP]; exact ag_thr) (by rw [hP]; exact eg_thr) rfl rfl rfl rfl rfl) ?_ | ((first | refine tg_split rfl (fun h => ?_) (fun h => ?_) | refine ts_cond rfl (fun h => ?_) (fun h => ?_)) <;> (try simp only [decide_eq_true_eq, decide_eq_false_iff_not, Bool.not_eq_true', Bool.not_eq_false', Bool.not_true, Bool.not_false, Bool.not_not, beq_iff_eq, Bool.not_eq_true, Bool.not_eq_false] at h) <;> try (exfalso; first | exact h rfl | exact h trivial; done)) | fail)
    exact .fr rfl
  · skip
    obtain ⟨d, f, k1, k2, k3, k4, k5, k6⟩ := key ⟨2, 0, 0, b⟩ (.inl ⟨_, rfl⟩)
    refine tr_weak ((w_rowsA (k := 3) (ys := [cSym ⟨bs [120], 2, []⟩]) rfl (by rfl) (by intro h; cases h) (by decide) (by repeat' (first | exact .nil | refine .cons ?_ ?_ | exact .nil 1 | exact .refl _))).trans ((w_rowsA (k := 4) (ys := [cIns (insT o false ⟨2, 0, 0, b⟩), cIns hltI]) rfl (by rfl) (by intro h; cases h) (by intro y hy; simp only [List.mem_cons, List.not_mem_nil, or_false] at hy; rcases hy with rfl | rfl <;> rfl) (by repeat' (first | exact .nil | refine .cons ?_ ?_ | exact .nil 1 | exact .refl _))).trans ((w_rowsA (k := 5) (ys := [cIns (insT o true ⟨2, 0, 0, b⟩), cIns hltI]) rfl (by rfl) (by intro h; cases h) (by intro y hy; simp only [List.mem_cons, List.not_mem_nil, or_false] at hy; rcases hy with rfl | rfl <;> rfl) (by repeat' (first | exact .nil | refine .cons ?_ ?_ | exact .nil 1 | exact .refl _))).trans ((w_freeze (d := 41) (k := 4) rfl rfl (.aggL (.cons (.s 2 true rfl) .nil))).trans (w_freeze (d := 45) (k := 5) rfl rfl (.aggL (.cons (.s 2 true rfl) .nil))))))) ?_
    repeat' (first | refine goR rfl ?_ | refine goS rfl ?_ | refine tret1 rfl ?_ | refine tretN rfl ?_ | refine tr_guard_y rfl rfl ?_ | refine tr_guard_n rfl rfl ?_ | refine ts_cond_t rfl rfl ?_ | refine ts_cond_f rfl rfl ?_ | fail)
    refine tr_weak ((w_freeze (d := 48) (k := 3) rfl rfl (.aggL (.cons (.s 1 true rfl) (.cons (.refl _) .nil)))).trans (w_freeze (d := 48) (k := 6) rfl rfl (.aggL (.cons (.refl _) (.cons (.s 2 true rfl) .nil))))) ?_
    repeat' (first | refine goR rfl ?_ | refine goS rfl ?_ | refine tret1 rfl ?_ | refine tretN rfl ?_ | refine tr_guard_y rfl rfl ?_ | refine tr_guard_n rfl rfl ?_ | refine ts_cond_t rfl rfl ?_ | refine ts_cond_f rfl rfl ?_ | refine tr_callA rfl (by rw [hP, hG]; exact k1) rfl ?_ | refine tr_callA rfl (by rw [hP, hG]; exact k2) rfl ?_ | refine tr_callA rfl (by rw [hP, hG]; exact k3) rfl ?_ | refine tr_callA rfl (by rw [hP, hG]; exact k4) rfl ?_ | refine tr_callA rfl (by rw [hP, hG]; exact k5) rfl ?_ | refine tr_callA rfl (by rw [hP, hG]; exact k6) rfl ?_ | refine tr_callA rfl (by rw [hP, hG]; exact alive_spec) rfl ?_ | refine tr_light (tl_eqT (by rw [hP]; exact sh_deed) (by rw [hP]; exact ag_deed) (by rw [hP]; exact eg_deed) rfl rfl rfl rfl rfl) ?_ | refine tr_light (tl_eqT (by rw [hP]; exact sh_thr) (by rw [hP]; exact ag_thr) (by rw [hP]; exact eg_thr) rfl rfl rfl rfl rfl) ?_ | ((first | refine tg_split rfl (fun h => ?_) (fun h => ?_) | refine ts_cond rfl (fun h => ?_) (fun h => ?_)) <;> (try simp only [decide_eq_true_eq, decide_eq_false_iff_not, Bool.not_eq_true', Bool.not_eq_false', Bool.not_true, Bool.not_false, Bool.not_not, beq_iff_eq, Bool.not_eq_true, Bool.not_eq_false] at h) <;> try (exfalso; first | exact h rfl | exact h trivial; done)) | fail)
    exact .fr rfl
end
end Go.Proofs.YtlmgfhonaegnlaaDoor
