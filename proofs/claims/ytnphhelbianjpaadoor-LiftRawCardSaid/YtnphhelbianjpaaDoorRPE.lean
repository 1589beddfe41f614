/-
  Walks of functions of the program, and what the laws need of them.
-/
import Derived.Test.YtnphhelbianjpaaDoorRPD
import Derived.Test.YtnphhelbianjpaaDoorVH
set_option linter.all false
set_option linter.unusedSimpArgs false
set_option linter.unusedVariables false
set_option linter.unnecessarySimpa false
namespace Go.Proofs.YtnphhelbianjpaaDoor
set_option maxRecDepth 20000
open Go Go.Proofs.YtnphhelbianjpaaDoor.V Go.Proofs

theorem numW_inc (o : Opd) (x : Thr) : numW o (incP x) = numW o x := rfl
theorem step1 {p : Prg} {i : Ins} {x : Thr} (h : (stepW p i x).kind = 1) : ¬ (readsB i = true ∨ writesB i = true) := by
 intro hm
 cases ha : addrW p.syms (opdOf i) x with
 | none => rw [step_none hm ha] at h; cases h
 | some a =>
  rw [step_some hm ha] at h
  split at h
  ·cases h
  ·split at h
   ·cases h
   ·split at h
    ·cases h
    ·cases h
theorem step2 {p : Prg} {i : Ins} {x : Thr} (h : (stepW p i x).kind = 2) : readsB i = true ∧ lockedB i = false := by
 by_cases hm : readsB i = true ∨ writesB i = true
 ·cases ha : addrW p.syms (opdOf i) x with
  | none => rw [step_none hm ha] at h; cases h
  | some a =>
   rw [step_some hm ha] at h
   split at h
   ·cases h
   ·split at h
    ·cases h
    ·split at h
     ·exact ⟨by assumption, by simpa using ‹¬ lockedB i = true›⟩
     ·cases h
 ·rw [step_loc hm] at h
  split at h <;> cases h
theorem loc_a {i : Ins} (hf : Form i) (h : ¬ (readsB i = true ∨ writesB i = true)) : i.op ≤ 7 → i.a.kind = 1 := by
 intro h7
 refine hf.low h7 ?_
 cases hm : memK i.a with
 | false => rfl
 | true =>
  exfalso
  apply h
  have h1 := hf.reads
  have h2 := hf.writes
  rw [hm] at h1 h2
  by_cases h7 : i.op = 7
  ·left; rw [h1, h7]; simp
  ·right; rw [h2, dF h7]; rfl
theorem parts2 {i : Ins} (h : insRight i = 0) : partsI i = 2 ↔ readsB i = true ∧ writesB i = true ∧ lockedB i = false := by
 unfold partsI
 rw [if_pos h]
 split
 ·simp_all
 ·rename_i hn
  simp only [hn]; simp
theorem ld_a {i : Ins} (hf : Form i) (hr : insRight i = 0) (h1 : readsB i = true) (h2 : lockedB i = false) (h3 : ¬ partsI i = 2) (h4 : i.op ≠ 7 ∨ i.a.kind = 1) : i.a.kind = 1 := by
 rw [parts2 hr] at h3
 simp only [h1, h2, and_true, true_and, Bool.not_eq_true] at h3
 have e1 := hf.reads
 have e2 := hf.writes
 rw [h1] at e1
 rw [h3] at e2
 have h8 : i.op ≠ 8 := fun h => by have := hf.locked; rw [h2, dT h] at this; simp at this
 have h9 : i.op ≠ 9 := fun h => by have := hf.locked; rw [h2, (hf.cmx h).2.2] at this; simp at this
 have hlo : i.op ≤ 7 := by
  have := hf.op
  by_cases h10 : 10 ≤ i.op
  ·obtain ⟨q1, q2, _⟩ := hf.hi h10
   rw [q1, q2] at e1; cases e1
  ·omega
 rcases h4 with h4 | h4
 ·refine hf.low hlo ?_
  cases hm : memK i.a with
  | false => rfl
  | true => rw [hm, dF h4] at e2; cases e2
 ·exact h4
section
attribute [local irreducible] TwS TwR thenT inBlockT retT readsB writesB readsO writesO lockedB partsI addrW opdOf phB doW numW IntKind.wrap holdsW stepW doLocal
theorem localP_spec (p : Prg) (ho : okP p) (hc : checkC p = 0) (t : Int) (x : Thr) (hx : thrR x) : Pure prog Tabs 41 [.fp (cCore p) 0, tI t, .agg (cThr x)] (.agg (cThr (localW p t x))) := by
 have c := fun G => line_spec (G := G) p t x
 have cn := next_spec p ho hc t x hx
 refine Pure.at mixedOk F41 rfl fun C hP hG hp => goF ?_; simp only [F41, targEnv, Nat.zero_add, Nat.reduceAdd]
 cases hcur : curI p t x with
 | none =>
  rw [show localW p t x = x by rw [localW, hcur]]
  rw [show nextW p t x = ⟨0, 0, 0⟩ by rw [nextW, hcur]] at cn
  simp only [lineP, hcur] at c
  repeat' (first | refine goR rfl ?_ | refine goS rfl ?_ | refine tret1 rfl ?_ | refine tretN rfl ?_ | refine gY rfl rfl ?_ | refine gN rfl rfl ?_ | refine qT rfl rfl ?_ | refine qF rfl rfl ?_ | refine cA rfl (by rw [hP, hG]; exact c _) rfl ?_ | refine cA rfl (by rw [hP, hG]; exact cn) rfl ?_ | ((first | refine gS rfl (fun h => ?_) (fun h => ?_) | refine ts_cond rfl (fun h => ?_) (fun h => ?_)) <;> try simp only [bs0, beq_iff_eq] at h) | fail)
  exact .fr rfl
 | some i =>
  obtain ⟨_, _, _, _, _, _, _, hio⟩ := cur_ok ho hc hcur
  have hf := form_of hio.right
  simp only [lineP, hcur, lineOf, cLine_mk] at c
  cases hph : phB i x with
  | false =>
   rw [show localW p t x = x by rw [localW, hcur]; simp only [hph]; rfl]
   rw [show nextW p t x = ⟨0, 0, 0⟩ by rw [nextW, hcur]; simp only [hph]; rfl] at cn
   simp only [hph] at c
   repeat' (first | refine goR rfl ?_ | refine goS rfl ?_ | refine tret1 rfl ?_ | refine tretN rfl ?_ | refine gY rfl rfl ?_ | refine gN rfl rfl ?_ | refine qT rfl rfl ?_ | refine qF rfl rfl ?_ | refine cA rfl (by rw [hP, hG]; exact c _) rfl ?_ | refine cA rfl (by rw [hP, hG]; exact cn) rfl ?_ | ((first | refine gS rfl (fun h => ?_) (fun h => ?_) | refine ts_cond rfl (fun h => ?_) (fun h => ?_)) <;> try simp only [bs0, beq_iff_eq] at h) | fail)
   exact .fr rfl
  | true =>
   rw [show localW p t x = localI p t i x by rw [localW, hcur]; simp only [hph]; rfl]
   rw [show nextW p t x = stepW p i x by rw [nextW, hcur]; simp only [hph]; rfl] at cn
   simp only [hph] at c
   repeat' (first | refine goR rfl ?_ | refine goS rfl ?_ | refine tret1 rfl ?_ | refine tretN rfl ?_ | refine gY rfl rfl ?_ | refine gN rfl rfl ?_ | refine qT rfl rfl ?_ | refine qF rfl rfl ?_ | refine cA rfl (by rw [hP, hG]; exact c _) rfl ?_ | refine cA rfl (by rw [hP, hG]; exact cn) rfl ?_ | refine cA rfl (by rw [hP, hG]; exact number_spec i.b x hf.rb) rfl ?_ | refine cA rfl (by rw [hP, hG]; exact do_spec _ _ _) rfl ?_ | refine cA rfl (by rw [hP, hG]; exact local_spec i _ _ _ _ _ _ x hf (loc_a hf (step1 (by assumption)))) rfl ?_ | ((first | refine gS rfl (fun h => ?_) (fun h => ?_) | refine ts_cond rfl (fun h => ?_) (fun h => ?_)) <;> (try simp only [bs0, beq_iff_eq] at h) <;> try (exfalso; omega; done)) | fail)
   ·rw [localI, if_pos h]; exact .fr rfl
   ·rw [localI, if_neg (by omega), if_pos h]; exact .fr rfl
   ·rw [localI, if_neg (by omega), if_neg (by omega), if_pos (by assumption), if_pos h]; exact .fr rfl
   ·rw [localI, if_neg (by omega), if_neg (by omega), if_pos (by assumption), if_neg h]; exact .fr rfl
   ·rw [localI, if_neg (by omega), if_neg (by omega), if_neg (by omega), if_pos h]; exact .fr rfl
   ·rw [localI, if_neg (by omega), if_neg (by omega), if_neg (by omega), if_neg h]; exact .fr rfl
theorem loaded_spec (p : Prg) (ho : okP p) (hc : checkC p = 0) (t : Int) (x : Thr) (hx : thrR x) (v : Int) : Pure prog Tabs 40 [.fp (cCore p) 0, tI t, .agg (cThr x), tI v] (.agg (cThr (loadedW p t x v))) := by
 have c := fun G => line_spec (G := G) p t x
 have cn := next_spec p ho hc t x hx
 refine Pure.at mixedOk F40 rfl fun C hP hG hp => goF ?_; simp only [F40, targEnv, Nat.zero_add, Nat.reduceAdd]
 cases hcur : curI p t x with
 | none =>
  rw [show loadedW p t x v = x by rw [loadedW, hcur]]
  rw [show nextW p t x = ⟨0, 0, 0⟩ by rw [nextW, hcur]] at cn
  repeat' (first | refine goR rfl ?_ | refine goS rfl ?_ | refine tret1 rfl ?_ | refine tretN rfl ?_ | refine gY rfl rfl ?_ | refine gN rfl rfl ?_ | refine qT rfl rfl ?_ | refine qF rfl rfl ?_ | refine cA rfl (by rw [hP, hG]; exact cn) rfl ?_ | ((first | refine gS rfl (fun h => ?_) (fun h => ?_) | refine ts_cond rfl (fun h => ?_) (fun h => ?_)) <;> try simp only [bs0, beq_iff_eq] at h) | fail)
  exact .fr rfl
 | some i =>
  obtain ⟨_, _, _, _, _, _, _, hio⟩ := cur_ok ho hc hcur
  have hf := form_of hio.right
  simp only [lineP, hcur, lineOf, cLine_mk] at c
  cases hph : phB i x with
  | false =>
   rw [show loadedW p t x v = x by rw [loadedW, hcur]; simp only [hph]; rfl]
   rw [show nextW p t x = ⟨0, 0, 0⟩ by rw [nextW, hcur]; simp only [hph]; rfl] at cn
   repeat' (first | refine goR rfl ?_ | refine goS rfl ?_ | refine tret1 rfl ?_ | refine tretN rfl ?_ | refine gY rfl rfl ?_ | refine gN rfl rfl ?_ | refine qT rfl rfl ?_ | refine qF rfl rfl ?_ | refine cA rfl (by rw [hP, hG]; exact cn) rfl ?_ | ((first | refine gS rfl (fun h => ?_) (fun h => ?_) | refine ts_cond rfl (fun h => ?_) (fun h => ?_)) <;> try simp only [bs0, beq_iff_eq] at h) | fail)
   exact .fr rfl
  | true =>
   rw [show nextW p t x = stepW p i x by rw [nextW, hcur]; simp only [hph]; rfl] at cn
   simp only [hph] at c
   by_cases hk : (stepW p i x).kind = 2
   ·rw [show loadedW p t x v = loadedI i x v by rw [loadedW, hcur]; simp only; rw [if_pos ⟨hph, hk⟩]]
    obtain ⟨k1, k2⟩ := step2 hk
    have hr := hf.ra
    have hla := ld_a hf hio.right k1 k2
    repeat' (first | refine goR rfl ?_ | refine goS rfl ?_ | refine tret1 rfl ?_ | refine tretN rfl ?_ | refine gY rfl rfl ?_ | refine gN rfl rfl ?_ | refine qT rfl rfl ?_ | refine qF rfl rfl ?_ | refine cA rfl (by rw [hP, hG]; exact c _) rfl ?_ | refine cA rfl (by rw [hP, hG]; exact cn) rfl ?_ | refine cA rfl (by rw [hP, hG]; exact number_spec i.b x hf.rb) rfl ?_ | refine cA rfl (by rw [hP, hG]; exact do_spec _ _ _) rfl ?_ | refine lT (tl_iaAp rfl rfl (by have := hr (hla (by assumption) (by omega)); omega)) ?_ | refine lT (tl_ldR rfl rfl (at8 (hr (hla (by assumption) (by omega))) (by omega))) ?_ | refine tr_store rfl rfl rfl rfl rfl (put8 (hr (hla (by assumption) (by omega))) (by omega)) rfl ?_ | ((first | refine gS rfl (fun h => ?_) (fun h => ?_) | refine ts_cond rfl (fun h => ?_) (fun h => ?_)) <;> (try simp only [bs0, beq_iff_eq] at h) <;> try (exfalso; omega; done)) | fail)
    all_goals first
     | (rw [loadedI, if_pos (by assumption)]; exact .fr rfl)
     | (rw [loadedI, if_neg (by assumption), if_pos (by omega)]; exact .fr rfl)
     | (rw [loadedI, if_neg (by assumption), if_neg (by omega), if_pos (by omega)]; exact .fr rfl)
     | (rw [loadedI, if_neg (by assumption), if_neg (by omega), if_neg (by omega), if_pos (by omega)]; exact .fr rfl)
     | (rw [loadedI, if_neg (by assumption), if_neg (by omega), if_neg (by omega), if_neg (by omega)]; exact .fr rfl)
   ·rw [show loadedW p t x v = x by rw [loadedW, hcur]; simp only; rw [if_neg (fun h => hk h.2)]]
    repeat' (first | refine goR rfl ?_ | refine goS rfl ?_ | refine tret1 rfl ?_ | refine tretN rfl ?_ | refine gY rfl rfl ?_ | refine gN rfl rfl ?_ | refine qT rfl rfl ?_ | refine qF rfl rfl ?_ | refine cA rfl (by rw [hP, hG]; exact cn) rfl ?_ | ((first | refine gS rfl (fun h => ?_) (fun h => ?_) | refine ts_cond rfl (fun h => ?_) (fun h => ?_)) <;> (try simp only [bs0, beq_iff_eq] at h) <;> try (exfalso; omega; done)) | fail)
    exact .fr rfl
theorem swap_spec (p : Prg) (ho : okP p) (hc : checkC p = 0) (t : Int) (x : Thr) (hx : thrR x) (v : Int) :
  Pure prog Tabs 42 [.fp (cCore p) 0, tI t, .agg (cThr x), tI v] (.tup [.agg (cThr (swapW p t x v).1), tI (swapW p t x v).2.1, tB (swapW p t x v).2.2]) := by
 have c := fun G => line_spec (G := G) p t x
 have cn := next_spec p ho hc t x hx
 refine Pure.at mixedOk F42 rfl fun C hP hG hp => goF ?_; simp only [F42, targEnv, Nat.zero_add, Nat.reduceAdd]
 cases hcur : curI p t x with
 | none =>
  rw [show swapW p t x v = (x, 0, false) by rw [swapW, hcur]]
  rw [show nextW p t x = ⟨0, 0, 0⟩ by rw [nextW, hcur]] at cn
  repeat' (first | refine goR rfl ?_ | refine goS rfl ?_ | refine tret1 rfl ?_ | refine tretN rfl ?_ | refine gY rfl rfl ?_ | refine gN rfl rfl ?_ | refine qT rfl rfl ?_ | refine qF rfl rfl ?_ | refine cA rfl (by rw [hP, hG]; exact cn) rfl ?_ | ((first | refine gS rfl (fun h => ?_) (fun h => ?_) | refine ts_cond rfl (fun h => ?_) (fun h => ?_)) <;> try simp only [bs0, beq_iff_eq] at h) | fail)
  exact .frT rfl
 | some i =>
  obtain ⟨_, _, _, _, _, _, _, hio⟩ := cur_ok ho hc hcur
  have hf := form_of hio.right
  simp only [lineP, hcur, lineOf, cLine_mk] at c
  cases hph : phB i x with
  | false =>
   rw [show swapW p t x v = (x, 0, false) by rw [swapW, hcur]; simp only [hph]; rfl]
   rw [show nextW p t x = ⟨0, 0, 0⟩ by rw [nextW, hcur]; simp only [hph]; rfl] at cn
   repeat' (first | refine goR rfl ?_ | refine goS rfl ?_ | refine tret1 rfl ?_ | refine tretN rfl ?_ | refine gY rfl rfl ?_ | refine gN rfl rfl ?_ | refine qT rfl rfl ?_ | refine qF rfl rfl ?_ | refine cA rfl (by rw [hP, hG]; exact cn) rfl ?_ | ((first | refine gS rfl (fun h => ?_) (fun h => ?_) | refine ts_cond rfl (fun h => ?_) (fun h => ?_)) <;> try simp only [bs0, beq_iff_eq] at h) | fail)
   exact .frT rfl
  | true =>
   rw [show nextW p t x = stepW p i x by rw [nextW, hcur]; simp only [hph]; rfl] at cn
   simp only [hph] at c
   by_cases hk : (stepW p i x).kind = 4
   ·rw [show swapW p t x v = swapI i x v by rw [swapW, hcur]; simp only; rw [if_pos ⟨hph, hk⟩]]
    have hr := hf.rb
    have h8 := hf.xch
    have cb := fun G => number_spec (G := G) i.b (incP x) hf.rb
    simp only [numW_inc] at cb
    repeat' (first | refine goR rfl ?_ | refine goS rfl ?_ | refine tret1 rfl ?_ | refine tretN rfl ?_ | refine gY rfl rfl ?_ | refine gN rfl rfl ?_ | refine qT rfl rfl ?_ | refine qF rfl rfl ?_ | refine cA rfl (by rw [hP, hG]; exact c _) rfl ?_ | refine cA rfl (by rw [hP, hG]; exact cn) rfl ?_ | refine cA rfl (by rw [hP, hG]; exact cb _) rfl ?_ | refine cA rfl (by rw [hP, hG]; exact do_spec _ _ _) rfl ?_ | refine lT (tl_iaAp rfl rfl (by have := hr (h8 (by assumption)).2.1; omega)) ?_ | refine lT (tl_iaAp rfl rfl (by decide)) ?_ | refine tr_store rfl rfl rfl rfl rfl (put8 (hr (h8 (by assumption)).2.1) (by omega)) rfl ?_ | ((first | refine gS rfl (fun h => ?_) (fun h => ?_) | refine ts_cond rfl (fun h => ?_) (fun h => ?_)) <;> (try simp only [bs0, beq_iff_eq] at h) <;> try (exfalso; omega; done)) | fail)
    all_goals first
     | (rw [swapI, if_pos (by assumption)]; exact .frT rfl)
     | (rw [swapI, if_neg (by omega), if_pos (by assumption), if_pos (by assumption)]; exact .frT rfl)
     | (rw [swapI, if_neg (by omega), if_pos (by assumption), if_neg (by assumption)]; exact .frT rfl)
     | (rw [swapI, if_neg (by omega), if_neg (by omega)]; exact .frT rfl)
     | skip
   ·rw [show swapW p t x v = (x, 0, false) by rw [swapW, hcur]; simp only; rw [if_neg (fun h => hk h.2)]]
    repeat' (first | refine goR rfl ?_ | refine goS rfl ?_ | refine tret1 rfl ?_ | refine tretN rfl ?_ | refine gY rfl rfl ?_ | refine gN rfl rfl ?_ | refine qT rfl rfl ?_ | refine qF rfl rfl ?_ | refine cA rfl (by rw [hP, hG]; exact cn) rfl ?_ | ((first | refine gS rfl (fun h => ?_) (fun h => ?_) | refine ts_cond rfl (fun h => ?_) (fun h => ?_)) <;> (try simp only [bs0, beq_iff_eq] at h) <;> try (exfalso; omega; done)) | fail)
    exact .frT rfl
end
end Go.Proofs.YtnphhelbianjpaaDoor
namespace Go.Proofs.YtnphhelbianjpaaDoor
set_option maxRecDepth 20000
open Go Go.Proofs.YtnphhelbianjpaaDoor.V Go.Proofs

section
attribute [local irreducible] TwS TwR thenT inBlockT retT readsB writesB readsO writesO lockedB partsI addrW opdOf phB doW numW
end
end Go.Proofs.YtnphhelbianjpaaDoor
namespace Go.Proofs.YtnphhelbianjpaaDoor
set_option maxRecDepth 20000
open Go Go.Proofs.YtnphhelbianjpaaDoor.V Go.Proofs
section
attribute [local irreducible] TwS TwR thenT inBlockT retT readsB writesB readsO writesO lockedB partsI addrW opdOf phB doW numW IntKind.wrap holdsW stepW
end
end Go.Proofs.YtnphhelbianjpaaDoor
namespace Go.Proofs.YtnphhelbianjpaaDoor
set_option maxRecDepth 20000
open Go Go.Proofs.YtnphhelbianjpaaDoor.V Go.Proofs
section
attribute [local irreducible] TwS TwR thenT inBlockT retT readsB writesB readsO writesO lockedB partsI addrW opdOf phB doW numW IntKind.wrap holdsW stepW memK
end
end Go.Proofs.YtnphhelbianjpaaDoor
namespace Go.Proofs.YtnphhelbianjpaaDoor
set_option maxRecDepth 20000
open Go Go.Proofs.YtnphhelbianjpaaDoor.V Go.Proofs

section
variable {G : World → Prop}
end
def okS (s : State) : Prop := s.mem.length ≤ 1000000000 ∧ s.thr.length ≤ 1000000000 ∧ s.bufs.length ≤ 1000000000 ∧ ∀ l ∈ s.bufs, l.length ≤ 1000000000
section
attribute [local irreducible] TwS TwR thenT inBlockT retT beqL
variable {G : World → Prop}
end
end Go.Proofs.YtnphhelbianjpaaDoor
namespace Go.Proofs.YtnphhelbianjpaaDoor
set_option maxRecDepth 20000
open Go Go.Proofs.YtnphhelbianjpaaDoor.V Go.Proofs
section
attribute [local irreducible] TwS TwR thenT inBlockT retT beqL
variable {G : World → Prop}
def start0 (p : Prg) : State := ⟨startF p.syms, List.replicate p.threads.length zThr, [], 0⟩
end
end Go.Proofs.YtnphhelbianjpaaDoor
namespace Go.Proofs.YtnphhelbianjpaaDoor
set_option maxRecDepth 20000
open Go Go.Proofs.YtnphhelbianjpaaDoor.V Go.Proofs
theorem cellsS_len (s : Sym) (h : (s.init.length : Int) ≤ s.size) : ((cellsS s).length : Int) = s.size := by rw [cellsS, lA, List.length_replicate]; omega
section
attribute [local irreducible] TwS TwR thenT inBlockT retT
variable {G : World → Prop}
end
end Go.Proofs.YtnphhelbianjpaaDoor
namespace Go.Proofs.YtnphhelbianjpaaDoor
set_option maxRecDepth 20000
open Go Go.Proofs.YtnphhelbianjpaaDoor.V Go.Proofs
def memT (s : State) : TObj := .rows 1 (s.mem.map fun n => [tI n]) 2
def thrT (s : State) : TObj := .rows 16 (s.thr.map cThr) 83
section
attribute [local irreducible] TwS TwR thenT inBlockT retT
variable {G : World → Prop}
theorem copySt_own (s : State) (ho : okS s) (hb : s.bufs = []) : TC prog G 39 [.agg (cState s)] ⟨[], 0⟩ [] (fun r σ' => r = .agg [.s 0 1 0 s.mem.length true, .s 1 16 0 s.thr.length true, .v (.slice none 0 0), tI s.lock] ∧ σ' = ⟨[(0, memT s), (1, thrT s)], 2⟩) := by
 obtain ⟨h1, h2, h3, h4⟩ := ho
 have e1 : (s.mem.map fun n => [tI n]).length = s.mem.length := lM ..
 have e2 : (s.thr.map cThr).length = s.thr.length := lM ..
 rw [show cState s = [rwI s.mem, .lst 16 (s.thr.map cThr), .lst 1 [], tI s.lock] by rw [cState, hb]; rfl]
 refine TC.at mixedOk F39 rfl fun C hP hG hp => goF ?_; simp only [F39, targEnv, Nat.zero_add, Nat.reduceAdd]
 repeat' (first | refine goR rfl ?_ | refine goS rfl ?_ | refine tret1 rfl ?_ | refine tretN rfl ?_ | refine gY rfl rfl ?_ | refine gN rfl rfl ?_ | refine qT rfl rfl ?_ | refine qF rfl rfl ?_ | refine tr_append rfl rfl rfl (.inl rfl) (by omega) rfl ?_ | fail)
 refine loopS (fun m env σ => env = [(2, .p 0 0), (3, .p 1 0), (18, .lst 1 []), (19, tI 0), (20, tI 0)] ∧ σ = ⟨[(0, .cells [.v (.slice none 0 0), .v (.slice none 0 0), .v (.slice none 0 0), tI 0] 73), (1, .cells [.s 2 1 0 s.mem.length true, .s 3 16 0 s.thr.length true, .v (.slice none 0 0), tI s.lock] 73), (2, .rows 1 (s.mem.map fun n => [tI n]) 2), (3, .rows 16 (s.thr.map cThr) 83)], 4⟩) 0 ?_ ⟨rfl, rfl⟩ ?_
 ·(refine w_ren [(0, 1), (1, 4), (2, 5), (3, 6)] rfl (by rw [hp]; decide) rfl ?_ ?_ <;> repeat' (first | exact .nil | exact .f _ rfl | exact .s _ _ _ _ _ _ rfl | exact .p _ _ _ rfl | exact .rows _ _ _ | exact .iter _ _ | exact RenL.nil _ | refine RenL.cons ?_ ?_ | refine .cells _ _ _ ?_ | refine .cons _ _ _ _ rfl ?_ ?_ | refine .cons _ _ _ _ _ rfl rfl ?_ ?_ | refine .rowsE ?_ | refine .sE rfl ?_ | exact .m _ _ rfl | refine .fE rfl ?_ | exact rnT_ok rfl | exact RenO.mB _ | exact RenO.mB [] | fail))
  all_goals omega
 rintro m env σ ⟨rfl, rfl⟩
 repeat' (first | refine goR rfl ?_ | refine goS rfl ?_ | refine tret1 rfl ?_ | refine tretN rfl ?_ | refine gY rfl rfl ?_ | refine gN rfl rfl ?_ | refine qT rfl rfl ?_ | refine qF rfl rfl ?_ | fail)
 refine twret rfl ?_ ⟨rfl, rfl⟩
 (refine w_ren [(0, 2), (1, 3)] rfl (by rw [hp]; decide) rfl ?_ ?_ <;> repeat' (first | exact .nil | exact .f _ rfl | exact .s _ _ _ _ _ _ rfl | exact .p _ _ _ rfl | exact .rows _ _ _ | exact .iter _ _ | exact RenL.nil _ | refine RenL.cons ?_ ?_ | refine .cells _ _ _ ?_ | refine .cons _ _ _ _ rfl ?_ ?_ | refine .cons _ _ _ _ _ rfl rfl ?_ ?_ | refine .rowsE ?_ | refine .sE rfl ?_ | exact .m _ _ rfl | refine .fE rfl ?_ | exact rnT_ok rfl | exact RenO.mB _ | exact RenO.mB [] | fail))
end
end Go.Proofs.YtnphhelbianjpaaDoor
namespace Go.Proofs.YtnphhelbianjpaaDoor
set_option maxRecDepth 20000
open Go Go.Proofs.YtnphhelbianjpaaDoor.V Go.Proofs
section
attribute [local irreducible] TwS TwR thenT inBlockT retT
variable {G : World → Prop}
theorem startS_own (p : Prg) (hs : okS (start0 p)) (hb : (start0 p).bufs = []) : TC prog G 38 [.fp (cCore p) 0] ⟨[], 0⟩ [] (fun r σ' => r = .agg [.s 0 1 0 (start0 p).mem.length true, .s 1 16 0 (start0 p).thr.length true, .v (.slice none 0 0), tI (start0 p).lock] ∧ σ' = ⟨[(0, memT (start0 p)), (1, thrT (start0 p))], 2⟩) := by
 have c := copySt_own (G := G) (start0 p) hs hb
 refine TC.at mixedOk F38 rfl fun C hP hG hp => goF ?_; simp only [F38, targEnv, Nat.zero_add, Nat.reduceAdd]
 repeat' (first | refine goR rfl ?_ | refine goS rfl ?_ | refine tret1 rfl ?_ | refine tretN rfl ?_ | refine gY rfl rfl ?_ | refine gN rfl rfl ?_ | refine qT rfl rfl ?_ | refine qF rfl rfl ?_ | refine tr_mcallB hP hG (c) rfl [] rfl rfl rfl rfl rfl rfl ?_ | fail)
 refine twret rfl ?_ ⟨rfl, rfl⟩
 (refine w_ren [(0, 1), (1, 2)] rfl (by rw [hp]; decide) rfl ?_ ?_ <;> repeat' (first | exact .nil | exact .f _ rfl | exact .s _ _ _ _ _ _ rfl | exact .p _ _ _ rfl | exact .rows _ _ _ | exact .iter _ _ | exact RenL.nil _ | refine RenL.cons ?_ ?_ | refine .cells _ _ _ ?_ | refine .cons _ _ _ _ rfl ?_ ?_ | refine .cons _ _ _ _ _ rfl rfl ?_ ?_ | refine .rowsE ?_ | refine .sE rfl ?_ | exact .m _ _ rfl | refine .fE rfl ?_ | exact rnT_ok rfl | exact RenO.mB _ | exact RenO.mB [] | fail))
end
end Go.Proofs.YtnphhelbianjpaaDoor
