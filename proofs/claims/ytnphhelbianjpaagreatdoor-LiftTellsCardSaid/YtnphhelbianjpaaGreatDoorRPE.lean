/-
  Walks of functions of the program, and what the laws need of them.
-/
import Derived.Test.YtnphhelbianjpaaGreatDoorRPD
import Derived.Test.YtnphhelbianjpaaGreatDoorVH
set_option linter.all false
set_option linter.unusedSimpArgs false
set_option linter.unusedVariables false
set_option linter.unnecessarySimpa false
namespace Go.Proofs.YtnphhelbianjpaaGreatDoor
set_option maxRecDepth 20000
open Go Go.Proofs.YtnphhelbianjpaaGreatDoor.V Go.Proofs

theorem numW_inc (o : Opd) (x : Thr) : numW o (incP x) = numW o x := rfl
theorem step1 {p : Prg} {i : Ins} {x : Thr} (h : (stepW p i x).kind = 1) : ¬ (readsB i = true ∨ writesB i = true) := by
 intro hm
 cases ha : addrW p.syms (opdOf i) x with
 | none => rw [step_none hm ha] at h; cases h
 | some a =>
  rw [step_some hm ha] at h
  split at h
  ·cases h
  ·split at h
   ·cases h
   ·split at h
    ·cases h
    ·cases h
theorem step2 {p : Prg} {i : Ins} {x : Thr} (h : (stepW p i x).kind = 2) : readsB i = true ∧ lockedB i = false := by
 by_cases hm : readsB i = true ∨ writesB i = true
 ·cases ha : addrW p.syms (opdOf i) x with
  | none => rw [step_none hm ha] at h; cases h
  | some a =>
   rw [step_some hm ha] at h
   split at h
   ·cases h
   ·split at h
    ·cases h
    ·split at h
     ·exact ⟨by assumption, by simpa using ‹¬ lockedB i = true›⟩
     ·cases h
 ·rw [step_loc hm] at h
  split at h <;> cases h
theorem loc_a {i : Ins} (hf : Form i) (h : ¬ (readsB i = true ∨ writesB i = true)) : i.op ≤ 7 → i.a.kind = 1 := by
 intro h7
 refine hf.low h7 ?_
 cases hm : memK i.a with
 | false => rfl
 | true =>
  exfalso
  apply h
  have h1 := hf.reads
  have h2 := hf.writes
  rw [hm] at h1 h2
  by_cases h7 : i.op = 7
  ·left; rw [h1, h7]; simp
  ·right; rw [h2, dF h7]; rfl
theorem parts2 {i : Ins} (h : insRight i = 0) : partsI i = 2 ↔ readsB i = true ∧ writesB i = true ∧ lockedB i = false := by
 unfold partsI
 rw [if_pos h]
 split
 ·simp_all
 ·rename_i hn
  simp only [hn]; simp
theorem ld_a {i : Ins} (hf : Form i) (hr : insRight i = 0) (h1 : readsB i = true) (h2 : lockedB i = false) (h3 : ¬ partsI i = 2) (h4 : i.op ≠ 7 ∨ i.a.kind = 1) : i.a.kind = 1 := by
 rw [parts2 hr] at h3
 simp only [h1, h2, and_true, true_and, Bool.not_eq_true] at h3
 have e1 := hf.reads
 have e2 := hf.writes
 rw [h1] at e1
 rw [h3] at e2
 have h8 : i.op ≠ 8 := fun h => by have := hf.locked; rw [h2, dT h] at this; simp at this
 have h9 : i.op ≠ 9 := fun h => by have := hf.locked; rw [h2, (hf.cmx h).2.2] at this; simp at this
 have hlo : i.op ≤ 7 := by
  have := hf.op
  by_cases h10 : 10 ≤ i.op
  ·obtain ⟨q1, q2, _⟩ := hf.hi h10
   rw [q1, q2] at e1; cases e1
  ·omega
 rcases h4 with h4 | h4
 ·refine hf.low hlo ?_
  cases hm : memK i.a with
  | false => rfl
  | true => rw [hm, dF h4] at e2; cases e2
 ·exact h4
section
attribute [local irreducible] TwS TwR thenT inBlockT retT readsB writesB readsO writesO lockedB partsI addrW opdOf phB doW numW IntKind.wrap holdsW stepW doLocal
theorem localP_spec (p : Prg) (ho : okP p) (hc : checkC p = 0) (t : Int) (x : Thr) (hx : thrR x) : Pure prog Tabs 71 [.fp (cCore p) 0, tI t, .agg (cThr x)] (.agg (cThr (localW p t x))) := by
 have c := fun G => line_spec (G := G) p t x
 have cn := next_spec p ho hc t x hx
 refine Pure.at mixedOk F71 rfl fun C hP hG hp => goF ?_; simp only [F71, targEnv, Nat.zero_add, Nat.reduceAdd]
 cases hcur : curI p t x with
 | none =>
  rw [show localW p t x = x by rw [localW, hcur]]
  rw [show nextW p t x = ⟨0, 0, 0⟩ by rw [nextW, hcur]] at cn
  simp only [lineP, hcur] at c
  repeat' (first | refine goR rfl ?_ | refine goS rfl ?_ | refine tret1 rfl ?_ | refine tretN rfl ?_ | refine gY rfl rfl ?_ | refine gN rfl rfl ?_ | refine qT rfl rfl ?_ | refine qF rfl rfl ?_ | refine cA rfl (by rw [hP, hG]; exact c _) rfl ?_ | refine cA rfl (by rw [hP, hG]; exact cn) rfl ?_ | ((first | refine gS rfl (fun h => ?_) (fun h => ?_) | refine ts_cond rfl (fun h => ?_) (fun h => ?_)) <;> try simp only [bs0, beq_iff_eq] at h) | fail)
  exact .fr rfl
 | some i =>
  obtain ⟨_, _, _, _, _, _, _, hio⟩ := cur_ok ho hc hcur
  have hf := form_of hio.right
  simp only [lineP, hcur, lineOf, cLine_mk] at c
  cases hph : phB i x with
  | false =>
   rw [show localW p t x = x by rw [localW, hcur]; simp only [hph]; rfl]
   rw [show nextW p t x = ⟨0, 0, 0⟩ by rw [nextW, hcur]; simp only [hph]; rfl] at cn
   simp only [hph] at c
   repeat' (first | refine goR rfl ?_ | refine goS rfl ?_ | refine tret1 rfl ?_ | refine tretN rfl ?_ | refine gY rfl rfl ?_ | refine gN rfl rfl ?_ | refine qT rfl rfl ?_ | refine qF rfl rfl ?_ | refine cA rfl (by rw [hP, hG]; exact c _) rfl ?_ | refine cA rfl (by rw [hP, hG]; exact cn) rfl ?_ | ((first | refine gS rfl (fun h => ?_) (fun h => ?_) | refine ts_cond rfl (fun h => ?_) (fun h => ?_)) <;> try simp only [bs0, beq_iff_eq] at h) | fail)
   exact .fr rfl
  | true =>
   rw [show localW p t x = localI p t i x by rw [localW, hcur]; simp only [hph]; rfl]
   rw [show nextW p t x = stepW p i x by rw [nextW, hcur]; simp only [hph]; rfl] at cn
   simp only [hph] at c
   repeat' (first | refine goR rfl ?_ | refine goS rfl ?_ | refine tret1 rfl ?_ | refine tretN rfl ?_ | refine gY rfl rfl ?_ | refine gN rfl rfl ?_ | refine qT rfl rfl ?_ | refine qF rfl rfl ?_ | refine cA rfl (by rw [hP, hG]; exact c _) rfl ?_ | refine cA rfl (by rw [hP, hG]; exact cn) rfl ?_ | refine cA rfl (by rw [hP, hG]; exact number_spec i.b x hf.rb) rfl ?_ | refine cA rfl (by rw [hP, hG]; exact do_spec _ _ _) rfl ?_ | refine cA rfl (by rw [hP, hG]; exact local_spec i _ _ _ _ _ _ x hf (loc_a hf (step1 (by assumption)))) rfl ?_ | ((first | refine gS rfl (fun h => ?_) (fun h => ?_) | refine ts_cond rfl (fun h => ?_) (fun h => ?_)) <;> (try simp only [bs0, beq_iff_eq] at h) <;> try (exfalso; omega; done)) | fail)
   ·rw [localI, if_pos h]; exact .fr rfl
   ·rw [localI, if_neg (by omega), if_pos h]; exact .fr rfl
   ·rw [localI, if_neg (by omega), if_neg (by omega), if_pos (by assumption), if_pos h]; exact .fr rfl
   ·rw [localI, if_neg (by omega), if_neg (by omega), if_pos (by assumption), if_neg h]; exact .fr rfl
   ·rw [localI, if_neg (by omega), if_neg (by omega), if_neg (by omega), if_pos h]; exact .fr rfl
   ·rw [localI, if_neg (by omega), if_neg (by omega), if_neg (by omega), if_neg h]; exact .fr rfl
theorem loaded_spec (p : Prg) (ho : okP p) (hc : checkC p = 0) (t : Int) (x : Thr) (hx : thrR x) (v : Int) : Pure prog Tabs 70 [.fp (cCore p) 0, tI t, .agg (cThr x), tI v] (.agg (cThr (loadedW p t x v))) := by
 have c := fun G => line_spec (G := G) p t x
 have cn := next_spec p ho hc t x hx
 refine Pure.at mixedOk F70 rfl fun C hP hG hp => goF ?_; simp only [F70, targEnv, Nat.zero_add, Nat.reduceAdd]
 cases hcur : curI p t x with
 | none =>
  rw [show loadedW p t x v = x by rw [loadedW, hcur]]
  rw [show nextW p t x = ⟨0, 0, 0⟩ by rw [nextW, hcur]] at cn
  repeat' (first | refine goR rfl ?_ | refine goS rfl ?_ | refine tret1 rfl ?_ | refine tretN rfl ?_ | refine gY rfl rfl ?_ | refine gN rfl rfl ?_ | refine qT rfl rfl ?_ | refine qF rfl rfl ?_ | refine cA rfl (by rw [hP, hG]; exact cn) rfl ?_ | ((first | refine gS rfl (fun h => ?_) (fun h => ?_) | refine ts_cond rfl (fun h => ?_) (fun h => ?_)) <;> try simp only [bs0, beq_iff_eq] at h) | fail)
  exact .fr rfl
 | some i =>
  obtain ⟨_, _, _, _, _, _, _, hio⟩ := cur_ok ho hc hcur
  have hf := form_of hio.right
  simp only [lineP, hcur, lineOf, cLine_mk] at c
  cases hph : phB i x with
  | false =>
   rw [show loadedW p t x v = x by rw [loadedW, hcur]; simp only [hph]; rfl]
   rw [show nextW p t x = ⟨0, 0, 0⟩ by rw [nextW, hcur]; simp only [hph]; rfl] at cn
   repeat' (first | refine goR rfl ?_ | refine goS rfl ?_ | refine tret1 rfl ?_ | refine tretN rfl ?_ | refine gY rfl rfl ?_ | refine gN rfl rfl ?_ | refine qT rfl rfl ?_ | refine qF rfl rfl ?_ | refine cA rfl (by rw [hP, hG]; exact cn) rfl ?_ | ((first | refine gS rfl (fun h => ?_) (fun h => ?_) | refine ts_cond rfl (fun h => ?_) (fun h => ?_)) <;> try simp only [bs0, beq_iff_eq] at h) | fail)
   exact .fr rfl
  | true =>
   rw [show nextW p t x = stepW p i x by rw [nextW, hcur]; simp only [hph]; rfl] at cn
   simp only [hph] at c
   by_cases hk : (stepW p i x).kind = 2
   ·rw [show loadedW p t x v = loadedI i x v by rw [loadedW, hcur]; simp only; rw [if_pos ⟨hph, hk⟩]]
    obtain ⟨k1, k2⟩ := step2 hk
    have hr := hf.ra
    have hla := ld_a hf hio.right k1 k2
    repeat' (first | refine goR rfl ?_ | refine goS rfl ?_ | refine tret1 rfl ?_ | refine tretN rfl ?_ | refine gY rfl rfl ?_ | refine gN rfl rfl ?_ | refine qT rfl rfl ?_ | refine qF rfl rfl ?_ | refine cA rfl (by rw [hP, hG]; exact c _) rfl ?_ | refine cA rfl (by rw [hP, hG]; exact cn) rfl ?_ | refine cA rfl (by rw [hP, hG]; exact number_spec i.b x hf.rb) rfl ?_ | refine cA rfl (by rw [hP, hG]; exact do_spec _ _ _) rfl ?_ | refine lT (tl_iaAp rfl rfl (by have := hr (hla (by assumption) (by omega)); omega)) ?_ | refine lT (tl_ldR rfl rfl (at8 (hr (hla (by assumption) (by omega))) (by omega))) ?_ | refine tr_store rfl rfl rfl rfl rfl (put8 (hr (hla (by assumption) (by omega))) (by omega)) rfl ?_ | ((first | refine gS rfl (fun h => ?_) (fun h => ?_) | refine ts_cond rfl (fun h => ?_) (fun h => ?_)) <;> (try simp only [bs0, beq_iff_eq] at h) <;> try (exfalso; omega; done)) | fail)
    all_goals first
     | (rw [loadedI, if_pos (by assumption)]; exact .fr rfl)
     | (rw [loadedI, if_neg (by assumption), if_pos (by omega)]; exact .fr rfl)
     | (rw [loadedI, if_neg (by assumption), if_neg (by omega), if_pos (by omega)]; exact .fr rfl)
     | (rw [loadedI, if_neg (by assumption), if_neg (by omega), if_neg (by omega), if_pos (by omega)]; exact .fr rfl)
     | (rw [loadedI, if_neg (by assumption), if_neg (by omega), if_neg (by omega), if_neg (by omega)]; exact .fr rfl)
   ·rw [show loadedW p t x v = x by rw [loadedW, hcur]; simp only; rw [if_neg (fun h => hk h.2)]]
    repeat' (first | refine goR rfl ?_ | refine goS rfl ?_ | refine tret1 rfl ?_ | refine tretN rfl ?_ | refine gY rfl rfl ?_ | refine gN rfl rfl ?_ | refine qT rfl rfl ?_ | refine qF rfl rfl ?_ | refine cA rfl (by rw [hP, hG]; exact cn) rfl ?_ | ((first | refine gS rfl (fun h => ?_) (fun h => ?_) | refine ts_cond rfl (fun h => ?_) (fun h => ?_)) <;> (try simp only [bs0, beq_iff_eq] at h) <;> try (exfalso; omega; done)) | fail)
    exact .fr rfl
theorem swap_spec (p : Prg) (ho : okP p) (hc : checkC p = 0) (t : Int) (x : Thr) (hx : thrR x) (v : Int) :
  Pure prog Tabs 72 [.fp (cCore p) 0, tI t, .agg (cThr x), tI v] (.tup [.agg (cThr (swapW p t x v).1), tI (swapW p t x v).2.1, tB (swapW p t x v).2.2]) := by
 have c := fun G => line_spec (G := G) p t x
 have cn := next_spec p ho hc t x hx
 refine Pure.at mixedOk F72 rfl fun C hP hG hp => goF ?_; simp only [F72, targEnv, Nat.zero_add, Nat.reduceAdd]
 cases hcur : curI p t x with
 | none =>
  rw [show swapW p t x v = (x, 0, false) by rw [swapW, hcur]]
  rw [show nextW p t x = ⟨0, 0, 0⟩ by rw [nextW, hcur]] at cn
  repeat' (first | refine goR rfl ?_ | refine goS rfl ?_ | refine tret1 rfl ?_ | refine tretN rfl ?_ | refine gY rfl rfl ?_ | refine gN rfl rfl ?_ | refine qT rfl rfl ?_ | refine qF rfl rfl ?_ | refine cA rfl (by rw [hP, hG]; exact cn) rfl ?_ | ((first | refine gS rfl (fun h => ?_) (fun h => ?_) | refine ts_cond rfl (fun h => ?_) (fun h => ?_)) <;> try simp only [bs0, beq_iff_eq] at h) | fail)
  exact .frT rfl
 | some i =>
  obtain ⟨_, _, _, _, _, _, _, hio⟩ := cur_ok ho hc hcur
  have hf := form_of hio.right
  simp only [lineP, hcur, lineOf, cLine_mk] at c
  cases hph : phB i x with
  | false =>
   rw [show swapW p t x v = (x, 0, false) by rw [swapW, hcur]; simp only [hph]; rfl]
   rw [show nextW p t x = ⟨0, 0, 0⟩ by rw [nextW, hcur]; simp only [hph]; rfl] at cn
   repeat' (first | refine goR rfl ?_ | refine goS rfl ?_ | refine tret1 rfl ?_ | refine tretN rfl ?_ | refine gY rfl rfl ?_ | refine gN rfl rfl ?_ | refine qT rfl rfl ?_ | refine qF rfl rfl ?_ | refine cA rfl (by rw [hP, hG]; exact cn) rfl ?_ | ((first | refine gS rfl (fun h => ?_) (fun h => ?_) | refine ts_cond rfl (fun h => ?_) (fun h => ?_)) <;> try simp only [bs0, beq_iff_eq] at h) | fail)
   exact .frT rfl
  | true =>
   rw [show nextW p t x = stepW p i x by rw [nextW, hcur]; simp only [hph]; rfl] at cn
   simp only [hph] at c
   by_cases hk : (stepW p i x).kind = 4
   ·rw [show swapW p t x v = swapI i x v by rw [swapW, hcur]; simp only; rw [if_pos ⟨hph, hk⟩]]
    have hr := hf.rb
    have h8 := hf.xch
    have cb := fun G => number_spec (G := G) i.b (incP x) hf.rb
    simp only [numW_inc] at cb
    repeat' (first | refine goR rfl ?_ | refine goS rfl ?_ | refine tret1 rfl ?_ | refine tretN rfl ?_ | refine gY rfl rfl ?_ | refine gN rfl rfl ?_ | refine qT rfl rfl ?_ | refine qF rfl rfl ?_ | refine cA rfl (by rw [hP, hG]; exact c _) rfl ?_ | refine cA rfl (by rw [hP, hG]; exact cn) rfl ?_ | refine cA rfl (by rw [hP, hG]; exact cb _) rfl ?_ | refine cA rfl (by rw [hP, hG]; exact do_spec _ _ _) rfl ?_ | refine lT (tl_iaAp rfl rfl (by have := hr (h8 (by assumption)).2.1; omega)) ?_ | refine lT (tl_iaAp rfl rfl (by decide)) ?_ | refine tr_store rfl rfl rfl rfl rfl (put8 (hr (h8 (by assumption)).2.1) (by omega)) rfl ?_ | ((first | refine gS rfl (fun h => ?_) (fun h => ?_) | refine ts_cond rfl (fun h => ?_) (fun h => ?_)) <;> (try simp only [bs0, beq_iff_eq] at h) <;> try (exfalso; omega; done)) | fail)
    all_goals first
     | (rw [swapI, if_pos (by assumption)]; exact .frT rfl)
     | (rw [swapI, if_neg (by omega), if_pos (by assumption), if_pos (by assumption)]; exact .frT rfl)
     | (rw [swapI, if_neg (by omega), if_pos (by assumption), if_neg (by assumption)]; exact .frT rfl)
     | (rw [swapI, if_neg (by omega), if_neg (by omega)]; exact .frT rfl)
     | skip
   ·rw [show swapW p t x v = (x, 0, false) by rw [swapW, hcur]; simp only; rw [if_neg (fun h => hk h.2)]]
    repeat' (first | refine goR rfl ?_ | refine goS rfl ?_ | refine tret1 rfl ?_ | refine tretN rfl ?_ | refine gY rfl rfl ?_ | refine gN rfl rfl ?_ | refine qT rfl rfl ?_ | refine qF rfl rfl ?_ | refine cA rfl (by rw [hP, hG]; exact cn) rfl ?_ | ((first | refine gS rfl (fun h => ?_) (fun h => ?_) | refine ts_cond rfl (fun h => ?_) (fun h => ?_)) <;> (try simp only [bs0, beq_iff_eq] at h) <;> try (exfalso; omega; done)) | fail)
    exact .frT rfl
end
end Go.Proofs.YtnphhelbianjpaaGreatDoor
namespace Go.Proofs.YtnphhelbianjpaaGreatDoor
set_option maxRecDepth 20000
open Go Go.Proofs.YtnphhelbianjpaaGreatDoor.V Go.Proofs

theorem lkp_map (s : ByteArray) (k : Int) : ∀ (l : List ByteArray) (r : List (ByteArray × Int)), lkp s ((l.map fun s => (s, k)) ++ r) = if hasB s l = true then some k else lkp s r
 | [], r => by simp [hasB]
 | x :: l, r => by
  simp only [List.map_cons, List.cons_append, lkp, hasB]
  by_cases h : s = x
  ·simp [h]
  ·simp only [if_neg h, dF h, Bool.false_or]; exact lkp_map s k l r
theorem lkp_find (s : ByteArray) : ∀ (l : List Ins) (k : Int), lkp s (labMapF k l) = (findI l s).map fun n => k + (n : Int)
 | [], _ => rfl
 | i :: l, k => by
  rw [labMapF, lkp_map, lkp_find s l]
  have e : findI (i :: l) s = if hasB s i.labels = true then some 0 else (findI l s).map (· + 1) := by
   unfold findI
   rw [List.findIdx?_cons, idx_has]

  rw [e]
  cases hb : hasB s i.labels with
  | true => simp
  | false =>
   simp only [Bool.false_eq_true, if_false]
   cases findI l s with
   | none => rfl
   | some n =>
    show some _ = some _
    congr 1
    show k + 1 + (n : Int) = k + ((n + 1 : Nat) : Int)
    omega
theorem tgt_find {p : Prg} (hc : checkC p = 0) {t : Int} {l : List Ins} (hg : getT p t = some l) (hl : l ∈ p.threads) {i : Ins} (hi : i ∈ l) (hj : jumpB i = true) : tgtOf p t i = optI (findI l i.to) := by
 have hw := (thread_ok (ths_ok _ _ (check_syms hc).2.2.2 l hl)).2.2.2
 have h1 := List.all_eq_true.1 hw i hi
 rw [hj, Bool.not_true, Bool.false_or, ← findI_has] at h1
 rw [tgtOf, hg]
 show (lkp i.to (labMap l)).getD 0 = _
 rw [labMap, lkp_find]
 cases hf : findI l i.to with
 | none => rw [hf] at h1; cases h1
 | some n => simp [optI]
theorem setR_same (x : Thr) (j : Int) (h : 0 ≤ j ∧ j ≤ 7) : setR x j (getR x j) = x := by
 have : j = 0 ∨ j = 1 ∨ j = 2 ∨ j = 3 ∨ j = 4 ∨ j = 5 ∨ j = 6 ∨ j = 7 := by omega
 rcases this with rfl | rfl | rfl | rfl | rfl | rfl | rfl | rfl <;> rfl
theorem do_cmp (a b : Int) : (doW 7 a b).1 = a := rfl
section
attribute [local irreducible] TwS TwR thenT inBlockT retT readsB writesB readsO writesO lockedB partsI addrW opdOf phB doW numW
theorem next_spec2 (p : Prg) (ho : okP p) (hc : checkC p = 0) (t : Int) (x : Thr) : Pure prog Tabs 39 [.agg (cPrg p), tI t, .agg (cThr x)] (.agg (cDeed (nextW p t x))) := by
 have c := at_spec p ho hc t x
 refine Pure.at mixedOk F39 rfl fun C hP hG hp => goF ?_; simp only [F39, targEnv, Nat.zero_add, Nat.reduceAdd]
 cases hcur : curI p t x with
 | none =>
  rw [show nextW p t x = ⟨0, 0, 0⟩ by rw [nextW, hcur]]
  simp only [atW, hcur] at c
  repeat' (first | refine goR rfl ?_ | refine goS rfl ?_ | refine tret1 rfl ?_ | refine tretN rfl ?_ | refine gY rfl rfl ?_ | refine gN rfl rfl ?_ | refine qT rfl rfl ?_ | refine qF rfl rfl ?_ | refine cA rfl (by rw [hP, hG]; exact c) rfl ?_ | ((first | refine gS rfl (fun h => ?_) (fun h => ?_) | refine ts_cond rfl (fun h => ?_) (fun h => ?_)) <;> try simp only [bs0, beq_iff_eq] at h) | fail)
  exact .fr rfl
 | some i =>
  obtain ⟨_, _, _, _, _, _, _, hio⟩ := cur_ok ho hc hcur
  have hf := form_of hio.right
  have hto := hio.to
  simp only [atW, hcur] at c
  cases hph : phB i x with
  | false =>
   rw [show nextW p t x = ⟨0, 0, 0⟩ by rw [nextW, hcur]; simp only [hph]; rfl]
   simp only [hph] at c
   repeat' (first | refine goR rfl ?_ | refine goS rfl ?_ | refine tret1 rfl ?_ | refine tretN rfl ?_ | refine gY rfl rfl ?_ | refine gN rfl rfl ?_ | refine qT rfl rfl ?_ | refine qF rfl rfl ?_ | refine cA rfl (by rw [hP, hG]; exact c) rfl ?_ | ((first | refine gS rfl (fun h => ?_) (fun h => ?_) | refine ts_cond rfl (fun h => ?_) (fun h => ?_)) <;> try simp only [bs0, beq_iff_eq] at h) | fail)
   exact .fr rfl
  | true =>
   rw [show nextW p t x = stepW p i x by rw [nextW, hcur]; simp only [hph]; rfl]
   simp only [hph] at c
   have cr := reads_spec2 i (by omega)
   have cw := writes_spec2 i (by omega)
   by_cases hm : (readsB i || writesB i) = true
   ·have hm' : readsB i = true ∨ writesB i = true := by simpa using hm
    obtain ⟨hok, s, hs⟩ := opd_mem hio hm
    have ca := fun G => address_spec (G := G) p hc (opdOf i) x s hs hok
    cases hrd : readsB i with
    | true =>
     have e := opd_same hf hrd
     simp only [hrd] at cr
     rw [e] at ca hs
     cases hadd : addrW p.syms (opdOf i) x with
     | none =>
      rw [e] at hadd
      simp only [hadd, Option.getD_none, Option.isSome_none] at ca
      rw [step_none hm' (by rw [e]; exact hadd)]
      repeat' (first | refine goR rfl ?_ | refine goS rfl ?_ | refine tret1 rfl ?_ | refine tretN rfl ?_ | refine gY rfl rfl ?_ | refine gN rfl rfl ?_ | refine qT rfl rfl ?_ | refine qF rfl rfl ?_ | refine cA rfl (by rw [hP, hG]; exact c) rfl ?_ | refine cA rfl (by rw [hP, hG]; exact cr) rfl ?_ | refine cA rfl (by rw [hP, hG]; exact cw) rfl ?_ | refine cA rfl (by rw [hP, hG]; exact ca _) rfl ?_ | ((first | refine gS rfl (fun h => ?_) (fun h => ?_) | refine ts_cond rfl (fun h => ?_) (fun h => ?_)) <;> try simp only [bs0, beq_iff_eq] at h) | fail)
      exact .fr rfl
     | some a =>
      rw [e] at hadd
      simp only [hadd, Option.getD_some, Option.isSome_some] at ca
      rw [step_some hm' (by rw [e]; exact hadd), if_pos hrd]
      repeat' (first | refine goR rfl ?_ | refine goS rfl ?_ | refine tret1 rfl ?_ | refine tretN rfl ?_ | refine gY rfl rfl ?_ | refine gN rfl rfl ?_ | refine qT rfl rfl ?_ | refine qF rfl rfl ?_ | refine cA rfl (by rw [hP, hG]; exact c) rfl ?_ | refine cA rfl (by rw [hP, hG]; exact cr) rfl ?_ | refine cA rfl (by rw [hP, hG]; exact cw) rfl ?_ | refine cA rfl (by rw [hP, hG]; exact ca _) rfl ?_ | refine cA rfl (by rw [hP, hG]; exact locked_spec2 i (by omega)) rfl ?_ | refine cA rfl (by rw [hP, hG]; exact number_spec2 i.b x hf.rb) rfl ?_ | refine cA rfl (by rw [hP, hG]; exact do_spec2 _ _ _) rfl ?_ | ((first | refine gS rfl (fun h => ?_) (fun h => ?_) | refine ts_cond rfl (fun h => ?_) (fun h => ?_)) <;> try simp only [bs0, beq_iff_eq] at h) | fail)
      ·rw [if_pos (by assumption)]; exact .fr rfl
      ·rw [if_neg (by assumption), if_pos (by assumption)]; exact .fr rfl
      ·rw [if_neg (by assumption), if_neg (by rw [‹lockedB i = false›]; decide)]; exact .fr rfl
    | false =>
     have hwr : writesB i = true := by rw [hrd, Bool.false_or] at hm; exact hm
     have e : opdOf i = writesO i := by unfold opdOf; rw [if_pos hwr]
     simp only [hrd] at cr
     simp only [hwr] at cw
     rw [e] at ca hs
     cases hadd : addrW p.syms (opdOf i) x with
     | none =>
      rw [e] at hadd
      simp only [hadd, Option.getD_none, Option.isSome_none] at ca
      rw [step_none hm' (by rw [e]; exact hadd)]
      repeat' (first | refine goR rfl ?_ | refine goS rfl ?_ | refine tret1 rfl ?_ | refine tretN rfl ?_ | refine gY rfl rfl ?_ | refine gN rfl rfl ?_ | refine qT rfl rfl ?_ | refine qF rfl rfl ?_ | refine cA rfl (by rw [hP, hG]; exact c) rfl ?_ | refine cA rfl (by rw [hP, hG]; exact cr) rfl ?_ | refine cA rfl (by rw [hP, hG]; exact cw) rfl ?_ | refine cA rfl (by rw [hP, hG]; exact ca _) rfl ?_ | ((first | refine gS rfl (fun h => ?_) (fun h => ?_) | refine ts_cond rfl (fun h => ?_) (fun h => ?_)) <;> try simp only [bs0, beq_iff_eq] at h) | fail)
      exact .fr rfl
     | some a =>
      rw [e] at hadd
      simp only [hadd, Option.getD_some, Option.isSome_some] at ca
      rw [step_some hm' (by rw [e]; exact hadd), if_neg (c := readsB i = true) (by rw [hrd]; decide)]
      repeat' (first | refine goR rfl ?_ | refine goS rfl ?_ | refine tret1 rfl ?_ | refine tretN rfl ?_ | refine gY rfl rfl ?_ | refine gN rfl rfl ?_ | refine qT rfl rfl ?_ | refine qF rfl rfl ?_ | refine cA rfl (by rw [hP, hG]; exact c) rfl ?_ | refine cA rfl (by rw [hP, hG]; exact cr) rfl ?_ | refine cA rfl (by rw [hP, hG]; exact cw) rfl ?_ | refine cA rfl (by rw [hP, hG]; exact ca _) rfl ?_ | refine cA rfl (by rw [hP, hG]; exact locked_spec2 i (by omega)) rfl ?_ | refine cA rfl (by rw [hP, hG]; exact number_spec2 i.b x hf.rb) rfl ?_ | refine cA rfl (by rw [hP, hG]; exact do_spec2 _ _ _) rfl ?_ | ((first | refine gS rfl (fun h => ?_) (fun h => ?_) | refine ts_cond rfl (fun h => ?_) (fun h => ?_)) <;> try simp only [bs0, beq_iff_eq] at h) | fail)
      ·rw [if_pos (by assumption)]; exact .fr rfl
      ·rw [if_neg (by assumption), if_pos (by assumption)]; exact .fr rfl
      ·rw [if_neg (by assumption), if_neg (by rw [‹lockedB i = false›]; decide)]; exact .fr rfl
   ·have hm' : ¬ (readsB i = true ∨ writesB i = true) := by simpa using hm
    simp only [Bool.or_eq_true, not_or, Bool.not_eq_true] at hm
    simp only [hm.1] at cr
    simp only [hm.2] at cw
    rw [step_loc hm']
    repeat' (first | refine goR rfl ?_ | refine goS rfl ?_ | refine tret1 rfl ?_ | refine tretN rfl ?_ | refine gY rfl rfl ?_ | refine gN rfl rfl ?_ | refine qT rfl rfl ?_ | refine qF rfl rfl ?_ | refine cA rfl (by rw [hP, hG]; exact c) rfl ?_ | refine cA rfl (by rw [hP, hG]; exact cr) rfl ?_ | refine cA rfl (by rw [hP, hG]; exact cw) rfl ?_ | ((first | refine gS rfl (fun h => ?_) (fun h => ?_) | refine ts_cond rfl (fun h => ?_) (fun h => ?_)) <;> try simp only [bs0, beq_iff_eq] at h) | fail)
    ·rw [if_pos h]; exact .fr rfl
    ·rw [if_neg h]; exact .fr rfl
end
end Go.Proofs.YtnphhelbianjpaaGreatDoor
namespace Go.Proofs.YtnphhelbianjpaaGreatDoor
set_option maxRecDepth 20000
open Go Go.Proofs.YtnphhelbianjpaaGreatDoor.V Go.Proofs
theorem step_kinds (p : Prg) (i : Ins) (x : Thr) : 1 ≤ (stepW p i x).kind ∧ (stepW p i x).kind ≤ 6 := by
 unfold stepW
 split
 ·split
  ·exact ⟨by decide, by decide⟩
  ·repeat' split
   all_goals exact ⟨by simp, by simp⟩
 ·split
  ·exact ⟨by decide, by decide⟩
  ·exact ⟨by decide, by decide⟩
theorem num_reg {o : Opd} {x : Thr} (h : o.kind = 1) : numW o x = getR x o.reg := by rw [numW, if_pos h]
theorem dl_cmp {i : Ins} {tgt : Int} {x : Thr} (h : i.op = 7) (ha : i.a.kind = 1) (hr : 0 ≤ i.a.reg ∧ i.a.reg ≤ 7) : doLocal i tgt x = incP { x with f := (doW i.op (numW i.a x) (numW i.b x)).2.1 } := by
 rw [doLocal, if_neg (by omega), if_neg (by omega), if_neg (by omega), if_pos (by omega), num_reg ha]
 have e : (doW i.op (getR x i.a.reg) (numW i.b x)).1 = getR x i.a.reg := by rw [h]; exact do_cmp _ _
 rw [e, setR_same x _ hr]
theorem dl_rec {i : Ins} {tgt : Int} {x : Thr} (h : 2 ≤ i.op ∧ i.op ≤ 6) (ha : i.a.kind = 1) : doLocal i tgt x = incP { setR x i.a.reg (doW i.op (numW i.a x) (numW i.b x)).1 with f := (doW i.op (numW i.a x) (numW i.b x)).2.1 } := by
 rw [doLocal, if_neg (by omega), if_neg (by omega), if_neg (by omega), if_pos (by omega), num_reg ha]
section
attribute [local irreducible] TwS TwR thenT inBlockT retT readsB writesB readsO writesO lockedB partsI addrW opdOf phB doW numW IntKind.wrap holdsW stepW
theorem localP_spec2 (p : Prg) (ho : okP p) (hc : checkC p = 0) (t : Int) (x : Thr) : Pure prog Tabs 47 [.agg (cPrg p), tI t, .agg (cThr x)] (.agg (cThr (localW p t x))) := by
 have c := at_spec p ho hc t x
 have cn := next_spec2 p ho hc t x
 refine Pure.at mixedOk F47 rfl fun C hP hG hp => goF ?_; simp only [F47, targEnv, Nat.zero_add, Nat.reduceAdd]
 cases hcur : curI p t x with
 | none =>
  rw [show localW p t x = x by rw [localW, hcur]]
  rw [show nextW p t x = ⟨0, 0, 0⟩ by rw [nextW, hcur]] at cn
  simp only [atW, hcur] at c
  repeat' (first | refine goR rfl ?_ | refine goS rfl ?_ | refine tret1 rfl ?_ | refine tretN rfl ?_ | refine gY rfl rfl ?_ | refine gN rfl rfl ?_ | refine qT rfl rfl ?_ | refine qF rfl rfl ?_ | refine cA rfl (by rw [hP, hG]; exact c) rfl ?_ | refine cA rfl (by rw [hP, hG]; exact cn) rfl ?_ | ((first | refine gS rfl (fun h => ?_) (fun h => ?_) | refine ts_cond rfl (fun h => ?_) (fun h => ?_)) <;> try simp only [bs0, beq_iff_eq] at h) | fail)
  exact .fr rfl
 | some i =>
  obtain ⟨l, hgt, hlm, hil, _, _, _, hio⟩ := cur_ok ho hc hcur
  have hf := form_of hio.right
  simp only [atW, hcur] at c
  cases hph : phB i x with
  | false =>
   rw [show localW p t x = x by rw [localW, hcur]; simp only [hph]; rfl]
   rw [show nextW p t x = ⟨0, 0, 0⟩ by rw [nextW, hcur]; simp only [hph]; rfl] at cn
   simp only [hph] at c
   repeat' (first | refine goR rfl ?_ | refine goS rfl ?_ | refine tret1 rfl ?_ | refine tretN rfl ?_ | refine gY rfl rfl ?_ | refine gN rfl rfl ?_ | refine qT rfl rfl ?_ | refine qF rfl rfl ?_ | refine cA rfl (by rw [hP, hG]; exact c) rfl ?_ | refine cA rfl (by rw [hP, hG]; exact cn) rfl ?_ | ((first | refine gS rfl (fun h => ?_) (fun h => ?_) | refine ts_cond rfl (fun h => ?_) (fun h => ?_)) <;> try simp only [bs0, beq_iff_eq] at h) | fail)
   exact .fr rfl
  | true =>
   rw [show localW p t x = localI p t i x by rw [localW, hcur]; simp only [hph]; rfl]
   rw [show nextW p t x = stepW p i x by rw [nextW, hcur]; simp only [hph]; rfl] at cn
   simp only [hph] at c
   have hk := step_kinds p i x
   have hop := hf.op
   have hr := hf.ra
   have hth : 0 ≤ t ∧ p.threads[t.toNat]? = some l := by
    unfold getT at hgt
    split at hgt
    ·exact ⟨by assumption, hgt⟩
    ·cases hgt
   obtain ⟨ht0, hth⟩ := hth
   have hll := (ho.2.2.2 l hlm).1.1
   have hjmp := fun hj => tgt_find (i := i) hc hgt hlm hil hj
   by_cases hk1 : (stepW p i x).kind = 1
   ·have hla := loc_a hf (step1 hk1)
    rw [localI, if_neg (by omega), if_neg (by omega), if_neg (by omega), if_pos hk1]
    have rk := fun G => reckons_spec2 (G := G) i.op
    repeat' (first | refine goR rfl ?_ | refine goS rfl ?_ | refine tret1 rfl ?_ | refine tretN rfl ?_ | refine gY rfl rfl ?_ | refine gN rfl rfl ?_ | refine qT rfl rfl ?_ | refine qF rfl rfl ?_ | refine cA rfl (by rw [hP, hG]; exact c) rfl ?_ | refine cA rfl (by rw [hP, hG]; exact cn) rfl ?_ | refine cA rfl (by rw [hP, hG]; exact number_spec2 i.a x hf.ra) rfl ?_ | refine cA rfl (by rw [hP, hG]; exact number_spec2 i.b x hf.rb) rfl ?_ | refine cA rfl (by rw [hP, hG]; exact do_spec2 _ _ _) rfl ?_ | refine cA rfl (by rw [hP, hG]; exact rk _) rfl ?_ | refine cA rfl (by rw [hP, hG]; exact holds_spec2 _ _) rfl ?_ | refine cA rfl (by rw [hP, hG]; exact findI_spec l i.to hll) rfl ?_ | refine lT (tl_ixm rfl rfl (by omega) hth) ?_ | refine lT (tl_iaAp rfl rfl (by have := hr (hla (by omega)); omega)) ?_ | refine tr_store rfl rfl rfl rfl rfl (put8 (hr (hla (by omega))) (by omega)) rfl ?_ | ((first | refine gS rfl (fun h => ?_) (fun h => ?_) | refine ts_cond rfl (fun h => ?_) (fun h => ?_)) <;> (try simp only [bs0, beq_iff_eq] at h) <;> try (exfalso; omega; done)) | fail)
    ·rw [doLocal, if_pos h]; exact .fr rfl
    ·rw [doLocal, if_neg (by omega), if_neg (by omega), if_pos h]; exact .fr rfl
    ·rw [dl_cmp h (hla (by omega)) (hr (hla (by omega)))]; exact .fr rfl
    ·rw [dl_rec (by assumption) (hla (by omega))]; exact .fr rfl
    ·rw [doLocal, if_neg (by omega), if_pos (.inl (by omega)), hjmp (by unfold jumpB; rw [dT ‹i.op = 10›]; rfl)]; exact .fr rfl
    ·rw [doLocal, if_neg (by omega), if_pos (.inr ⟨by assumption, by assumption⟩), hjmp (by unfold jumpB; rw [dT ‹i.op = 11›, Bool.or_true])]; exact .fr rfl
    ·rw [doLocal, if_neg (by omega), if_neg (by rw [‹holdsW i.cond x.f = false›]; simp; omega), if_neg (by omega), if_neg (by omega)]; exact .fr rfl
    ·rw [doLocal, if_neg (by omega), if_neg (by omega), if_neg (by omega), if_neg (by omega)]; exact .fr rfl
   ·repeat' (first | refine goR rfl ?_ | refine goS rfl ?_ | refine tret1 rfl ?_ | refine tretN rfl ?_ | refine gY rfl rfl ?_ | refine gN rfl rfl ?_ | refine qT rfl rfl ?_ | refine qF rfl rfl ?_ | refine cA rfl (by rw [hP, hG]; exact c) rfl ?_ | refine cA rfl (by rw [hP, hG]; exact cn) rfl ?_ | refine cA rfl (by rw [hP, hG]; exact number_spec2 i.b x hf.rb) rfl ?_ | refine cA rfl (by rw [hP, hG]; exact do_spec2 _ _ _) rfl ?_ | ((first | refine gS rfl (fun h => ?_) (fun h => ?_) | refine ts_cond rfl (fun h => ?_) (fun h => ?_)) <;> (try simp only [bs0, beq_iff_eq] at h) <;> try (exfalso; omega; done)) | fail)
    all_goals first
     | (rw [localI, if_neg (by omega), if_neg (by omega), if_neg (by omega), if_neg (by omega)]; exact .fr rfl)
     | (rw [localI, if_pos (by omega)]; exact .fr rfl)
     | (rw [localI, if_neg (by omega), if_neg (by omega), if_pos (by omega), if_pos (by assumption)]; exact .fr rfl)
     | (rw [localI, if_neg (by omega), if_neg (by omega), if_pos (by omega), if_neg (by assumption)]; exact .fr rfl)
     | (rw [localI, if_neg (by omega), if_pos (by omega)]; exact .fr rfl)
     | skip
end
end Go.Proofs.YtnphhelbianjpaaGreatDoor
namespace Go.Proofs.YtnphhelbianjpaaGreatDoor
set_option maxRecDepth 20000
open Go Go.Proofs.YtnphhelbianjpaaGreatDoor.V Go.Proofs
section
attribute [local irreducible] TwS TwR thenT inBlockT retT readsB writesB readsO writesO lockedB partsI addrW opdOf phB doW numW IntKind.wrap holdsW stepW memK
theorem loaded_spec2 (p : Prg) (ho : okP p) (hc : checkC p = 0) (t : Int) (x : Thr) (v : Int) : Pure prog Tabs 45 [.agg (cPrg p), tI t, .agg (cThr x), tI v] (.agg (cThr (loadedW p t x v))) := by
 have c := at_spec p ho hc t x
 have cn := next_spec2 p ho hc t x
 refine Pure.at mixedOk F45 rfl fun C hP hG hp => goF ?_; simp only [F45, targEnv, Nat.zero_add, Nat.reduceAdd]
 cases hcur : curI p t x with
 | none =>
  rw [show loadedW p t x v = x by rw [loadedW, hcur]]
  rw [show nextW p t x = ⟨0, 0, 0⟩ by rw [nextW, hcur]] at cn
  repeat' (first | refine goR rfl ?_ | refine goS rfl ?_ | refine tret1 rfl ?_ | refine tretN rfl ?_ | refine gY rfl rfl ?_ | refine gN rfl rfl ?_ | refine qT rfl rfl ?_ | refine qF rfl rfl ?_ | refine cA rfl (by rw [hP, hG]; exact cn) rfl ?_ | ((first | refine gS rfl (fun h => ?_) (fun h => ?_) | refine ts_cond rfl (fun h => ?_) (fun h => ?_)) <;> try simp only [bs0, beq_iff_eq] at h) | fail)
  exact .fr rfl
 | some i =>
  obtain ⟨l, hgt, hlm, hil, _, _, _, hio⟩ := cur_ok ho hc hcur
  have hf := form_of hio.right
  have hto := hio.to
  simp only [atW, hcur] at c
  cases hph : phB i x with
  | false =>
   rw [show loadedW p t x v = x by rw [loadedW, hcur]; simp only [hph]; rfl]
   rw [show nextW p t x = ⟨0, 0, 0⟩ by rw [nextW, hcur]; simp only [hph]; rfl] at cn
   repeat' (first | refine goR rfl ?_ | refine goS rfl ?_ | refine tret1 rfl ?_ | refine tretN rfl ?_ | refine gY rfl rfl ?_ | refine gN rfl rfl ?_ | refine qT rfl rfl ?_ | refine qF rfl rfl ?_ | refine cA rfl (by rw [hP, hG]; exact cn) rfl ?_ | ((first | refine gS rfl (fun h => ?_) (fun h => ?_) | refine ts_cond rfl (fun h => ?_) (fun h => ?_)) <;> try simp only [bs0, beq_iff_eq] at h) | fail)
   exact .fr rfl
  | true =>
   rw [show nextW p t x = stepW p i x by rw [nextW, hcur]; simp only [hph]; rfl] at cn
   simp only [hph] at c
   by_cases hk : (stepW p i x).kind = 2
   ·rw [show loadedW p t x v = loadedI i x v by rw [loadedW, hcur]; simp only; rw [if_pos ⟨hph, hk⟩]]
    obtain ⟨k1, k2⟩ := step2 hk
    have hr := hf.ra
    have hla := ld_a hf hio.right k1 k2
    have h7 : i.op = 7 → memK i.a = false → i.a.kind = 1 := fun h7 => hf.low (by omega)
    have h7' : memK i.a = true → i.a.kind ≠ 1 := fun hm hk => by
     have : memK i.a = false := by unfold memK; exact dF (by omega)
     rw [this] at hm; cases hm
    repeat' (first | refine goR rfl ?_ | refine goS rfl ?_ | refine tret1 rfl ?_ | refine tretN rfl ?_ | refine gY rfl rfl ?_ | refine gN rfl rfl ?_ | refine qT rfl rfl ?_ | refine qF rfl rfl ?_ | refine cA rfl (by rw [hP, hG]; exact c) rfl ?_ | refine cA rfl (by rw [hP, hG]; exact cn) rfl ?_ | refine cA rfl (by rw [hP, hG]; exact parts_spec2 i (by omega)) rfl ?_ | refine cA rfl (by rw [hP, hG]; exact memory_spec2 i.a) rfl ?_ | refine cA rfl (by rw [hP, hG]; exact number_spec2 i.a x hf.ra) rfl ?_ | refine cA rfl (by rw [hP, hG]; exact number_spec2 i.b x hf.rb) rfl ?_ | refine cA rfl (by rw [hP, hG]; exact do_spec2 _ _ _) rfl ?_ | refine lT (tl_iaAp rfl rfl (by have := hr (hla (by assumption) (by omega)); omega)) ?_ | refine tr_store rfl rfl rfl rfl rfl (put8 (hr (hla (by assumption) (by omega))) (by omega)) rfl ?_ | ((first | refine gS rfl (fun h => ?_) (fun h => ?_) | refine ts_cond rfl (fun h => ?_) (fun h => ?_)) <;> (try simp only [bs0, beq_iff_eq] at h) <;> try (exfalso; omega; done)) | fail)
    ·rw [loadedI, if_pos (by assumption)]; exact .fr rfl
    ·rw [loadedI, if_neg (by assumption), if_pos (by omega)]; exact .fr rfl
    ·have g7 : i.op = 7 := by omega
     rw [loadedI, if_neg (by assumption), if_neg (by omega), if_pos ⟨g7, h7' (by assumption)⟩, g7]; exact .fr rfl
    ·have g7 : i.op = 7 := by omega
     have ga := h7 g7 (by assumption)
     rw [loadedI, if_neg (by assumption), if_neg (by omega), if_neg (by omega), if_pos g7, g7, num_reg ga]; exact .fr rfl
    ·have ga := hla (by assumption) (by omega)
     rw [loadedI, if_neg (by assumption), if_neg (by omega), if_neg (by omega), if_neg (by omega), num_reg ga]; exact .fr rfl
   ·rw [show loadedW p t x v = x by rw [loadedW, hcur]; simp only; rw [if_neg (fun h => hk h.2)]]
    repeat' (first | refine goR rfl ?_ | refine goS rfl ?_ | refine tret1 rfl ?_ | refine tretN rfl ?_ | refine gY rfl rfl ?_ | refine gN rfl rfl ?_ | refine qT rfl rfl ?_ | refine qF rfl rfl ?_ | refine cA rfl (by rw [hP, hG]; exact cn) rfl ?_ | ((first | refine gS rfl (fun h => ?_) (fun h => ?_) | refine ts_cond rfl (fun h => ?_) (fun h => ?_)) <;> (try simp only [bs0, beq_iff_eq] at h) <;> try (exfalso; omega; done)) | fail)
    exact .fr rfl
theorem swap_spec2 (p : Prg) (ho : okP p) (hc : checkC p = 0) (t : Int) (x : Thr) (v : Int) :
  Pure prog Tabs 77 [.agg (cPrg p), tI t, .agg (cThr x), tI v] (.tup [.agg (cThr (swapW p t x v).1), tI (swapW p t x v).2.1, tB (swapW p t x v).2.2]) := by
 have c := at_spec p ho hc t x
 have cn := next_spec2 p ho hc t x
 refine Pure.at mixedOk F77 rfl fun C hP hG hp => goF ?_; simp only [F77, targEnv, Nat.zero_add, Nat.reduceAdd]
 cases hcur : curI p t x with
 | none =>
  rw [show swapW p t x v = (x, 0, false) by rw [swapW, hcur]]
  rw [show nextW p t x = ⟨0, 0, 0⟩ by rw [nextW, hcur]] at cn
  repeat' (first | refine goR rfl ?_ | refine goS rfl ?_ | refine tret1 rfl ?_ | refine tretN rfl ?_ | refine gY rfl rfl ?_ | refine gN rfl rfl ?_ | refine qT rfl rfl ?_ | refine qF rfl rfl ?_ | refine cA rfl (by rw [hP, hG]; exact cn) rfl ?_ | ((first | refine gS rfl (fun h => ?_) (fun h => ?_) | refine ts_cond rfl (fun h => ?_) (fun h => ?_)) <;> try simp only [bs0, beq_iff_eq] at h) | fail)
  exact .frT rfl
 | some i =>
  obtain ⟨l, hgt, hlm, hil, _, _, _, hio⟩ := cur_ok ho hc hcur
  have hf := form_of hio.right
  simp only [atW, hcur] at c
  cases hph : phB i x with
  | false =>
   rw [show swapW p t x v = (x, 0, false) by rw [swapW, hcur]; simp only [hph]; rfl]
   rw [show nextW p t x = ⟨0, 0, 0⟩ by rw [nextW, hcur]; simp only [hph]; rfl] at cn
   repeat' (first | refine goR rfl ?_ | refine goS rfl ?_ | refine tret1 rfl ?_ | refine tretN rfl ?_ | refine gY rfl rfl ?_ | refine gN rfl rfl ?_ | refine qT rfl rfl ?_ | refine qF rfl rfl ?_ | refine cA rfl (by rw [hP, hG]; exact cn) rfl ?_ | ((first | refine gS rfl (fun h => ?_) (fun h => ?_) | refine ts_cond rfl (fun h => ?_) (fun h => ?_)) <;> try simp only [bs0, beq_iff_eq] at h) | fail)
   exact .frT rfl
  | true =>
   rw [show nextW p t x = stepW p i x by rw [nextW, hcur]; simp only [hph]; rfl] at cn
   simp only [hph] at c
   by_cases hk : (stepW p i x).kind = 4
   ·rw [show swapW p t x v = swapI i x v by rw [swapW, hcur]; simp only; rw [if_pos ⟨hph, hk⟩]]
    have hr : i.op = 8 ∨ i.op = 9 → 0 ≤ i.b.reg ∧ i.b.reg ≤ 7 := fun h => hf.rb (h.elim (fun h => (hf.xch h).2.1) fun h => (hf.cmx h).2.1)
    have hnr : i.op = 8 ∨ i.op = 9 → numW i.b x = g8 i.b.reg x.r0 x.r1 x.r2 x.r3 x.r4 x.r5 x.r6 x.r7 := fun h => num_reg (h.elim (fun h => (hf.xch h).2.1) fun h => (hf.cmx h).2.1)
    repeat' (first | refine goR rfl ?_ | refine goS rfl ?_ | refine tret1 rfl ?_ | refine tretN rfl ?_ | refine gY rfl rfl ?_ | refine gN rfl rfl ?_ | refine qT rfl rfl ?_ | refine qF rfl rfl ?_ | refine cA rfl (by rw [hP, hG]; exact c) rfl ?_ | refine cA rfl (by rw [hP, hG]; exact cn) rfl ?_ | refine cA rfl (by rw [hP, hG]; exact number_spec2 i.b x hf.rb) rfl ?_ | refine cA rfl (by rw [hP, hG]; exact do_spec2 _ _ _) rfl ?_ | refine lT (tl_iaAp rfl rfl (by decide)) ?_ | refine lT (tl_iaAp rfl rfl (by have := hr (by omega); omega)) ?_ | refine lT (tl_ldR rfl rfl (at8 (hr (by omega)) (by omega))) ?_ | refine tr_store rfl rfl rfl rfl rfl (put8 (hr (by omega)) (by omega)) rfl ?_ | ((first | refine gS rfl (fun h => ?_) (fun h => ?_) | refine ts_cond rfl (fun h => ?_) (fun h => ?_)) <;> (try simp only [bs0, beq_iff_eq] at h) <;> try (exfalso; omega; done)) | fail)
    all_goals first
     | (rw [swapI, if_pos (by omega), hnr (by omega)]; exact .frT rfl)
     | (rw [swapI, if_neg (by omega), if_pos (by omega), if_pos (by assumption), hnr (by omega), show decide (x.r0 = v) = true from dT (by assumption)]; exact .frT rfl)
     | (rw [swapI, if_neg (by omega), if_pos (by omega), if_neg (by assumption), show decide (x.r0 = v) = false from dF (by assumption)]; exact .frT rfl)
     | (rw [swapI, if_neg (by omega), if_neg (by omega)]; exact .frT rfl)
     | skip
   ·rw [show swapW p t x v = (x, 0, false) by rw [swapW, hcur]; simp only; rw [if_neg (fun h => hk h.2)]]
    repeat' (first | refine goR rfl ?_ | refine goS rfl ?_ | refine tret1 rfl ?_ | refine tretN rfl ?_ | refine gY rfl rfl ?_ | refine gN rfl rfl ?_ | refine qT rfl rfl ?_ | refine qF rfl rfl ?_ | refine cA rfl (by rw [hP, hG]; exact cn) rfl ?_ | ((first | refine gS rfl (fun h => ?_) (fun h => ?_) | refine ts_cond rfl (fun h => ?_) (fun h => ?_)) <;> (try simp only [bs0, beq_iff_eq] at h) <;> try (exfalso; omega; done)) | fail)
    exact .frT rfl
end
end Go.Proofs.YtnphhelbianjpaaGreatDoor
namespace Go.Proofs.YtnphhelbianjpaaGreatDoor
set_option maxRecDepth 20000
open Go Go.Proofs.YtnphhelbianjpaaGreatDoor.V Go.Proofs

section
variable {G : World → Prop}
end
def okS (s : State) : Prop := s.mem.length ≤ 1000000000 ∧ s.thr.length ≤ 1000000000 ∧ s.bufs.length ≤ 1000000000 ∧ ∀ l ∈ s.bufs, l.length ≤ 1000000000
section
attribute [local irreducible] TwS TwR thenT inBlockT retT beqL
variable {G : World → Prop}
end
end Go.Proofs.YtnphhelbianjpaaGreatDoor
namespace Go.Proofs.YtnphhelbianjpaaGreatDoor
set_option maxRecDepth 20000
open Go Go.Proofs.YtnphhelbianjpaaGreatDoor.V Go.Proofs
section
attribute [local irreducible] TwS TwR thenT inBlockT retT beqL
variable {G : World → Prop}
def start0 (p : Prg) : State := ⟨startF p.syms, List.replicate p.threads.length zThr, [], 0⟩
end
end Go.Proofs.YtnphhelbianjpaaGreatDoor
namespace Go.Proofs.YtnphhelbianjpaaGreatDoor
set_option maxRecDepth 20000
open Go Go.Proofs.YtnphhelbianjpaaGreatDoor.V Go.Proofs
theorem cellsS_get (s : Sym) (k : Nat) (h : (s.init.length : Int) ≤ s.size) (hk : (k : Int) < s.size) : (cellsS s).take (k + 1) = (cellsS s).take k ++ [if h : k < s.init.length then s.init[k] else 0] := by
 have hlen : k < (cellsS s).length := by rw [cellsS, lA, List.length_replicate]; omega
 rw [List.take_add_one, List.getElem?_eq_getElem hlen, Option.toList_some]
 congr 2
 simp only [cellsS]
 by_cases h1 : k < s.init.length
 ·rw [dif_pos h1, List.getElem_append_left h1]
 ·rw [dif_neg h1, List.getElem_append_right (by omega), List.getElem_replicate]
theorem cellsS_len (s : Sym) (h : (s.init.length : Int) ≤ s.size) : ((cellsS s).length : Int) = s.size := by rw [cellsS, lA, List.length_replicate]; omega
section
attribute [local irreducible] TwS TwR thenT inBlockT retT
variable {G : World → Prop}
end
end Go.Proofs.YtnphhelbianjpaaGreatDoor
namespace Go.Proofs.YtnphhelbianjpaaGreatDoor
set_option maxRecDepth 20000
open Go Go.Proofs.YtnphhelbianjpaaGreatDoor.V Go.Proofs
def memT (s : State) : TObj := .rows 1 (s.mem.map fun n => [tI n]) 2
def thrT (s : State) : TObj := .rows 16 (s.thr.map cThr) 58
section
attribute [local irreducible] TwS TwR thenT inBlockT retT
variable {G : World → Prop}
theorem copySt_own (s : State) (ho : okS s) (hb : s.bufs = []) : TC prog G 69 [.agg (cState s)] ⟨[], 0⟩ [] (fun r σ' => r = .agg [.s 0 1 0 s.mem.length true, .s 1 16 0 s.thr.length true, .v (.slice none 0 0), tI s.lock] ∧ σ' = ⟨[(0, memT s), (1, thrT s)], 2⟩) := by
 obtain ⟨h1, h2, h3, h4⟩ := ho
 have e1 : (s.mem.map fun n => [tI n]).length = s.mem.length := lM ..
 have e2 : (s.thr.map cThr).length = s.thr.length := lM ..
 rw [show cState s = [rwI s.mem, .lst 16 (s.thr.map cThr), .lst 1 [], tI s.lock] by rw [cState, hb]; rfl]
 refine TC.at mixedOk F69 rfl fun C hP hG hp => goF ?_; simp only [F69, targEnv, Nat.zero_add, Nat.reduceAdd]
 repeat' (first | refine goR rfl ?_ | refine goS rfl ?_ | refine tret1 rfl ?_ | refine tretN rfl ?_ | refine gY rfl rfl ?_ | refine gN rfl rfl ?_ | refine qT rfl rfl ?_ | refine qF rfl rfl ?_ | refine tr_append rfl rfl rfl (.inl rfl) (by omega) rfl ?_ | fail)
 refine loopS (fun m env σ => env = [(2, .p 0 0), (3, .p 1 0), (18, .lst 1 []), (19, tI 0), (20, tI 0)] ∧ σ = ⟨[(0, .cells [.v (.slice none 0 0), .v (.slice none 0 0), .v (.slice none 0 0), tI 0] 46), (1, .cells [.s 2 1 0 s.mem.length true, .s 3 16 0 s.thr.length true, .v (.slice none 0 0), tI s.lock] 46), (2, .rows 1 (s.mem.map fun n => [tI n]) 2), (3, .rows 16 (s.thr.map cThr) 58)], 4⟩) 0 ?_ ⟨rfl, rfl⟩ ?_
 ·(refine w_ren [(0, 1), (1, 4), (2, 5), (3, 6)] rfl (by rw [hp]; decide) rfl ?_ ?_ <;> repeat' (first | exact .nil | exact .f _ rfl | exact .s _ _ _ _ _ _ rfl | exact .p _ _ _ rfl | exact .rows _ _ _ | exact .iter _ _ | exact RenL.nil _ | refine RenL.cons ?_ ?_ | refine .cells _ _ _ ?_ | refine .cons _ _ _ _ rfl ?_ ?_ | refine .cons _ _ _ _ _ rfl rfl ?_ ?_ | refine .rowsE ?_ | refine .sE rfl ?_ | exact .m _ _ rfl | refine .fE rfl ?_ | exact rnT_ok rfl | exact RenO.mB _ | exact RenO.mB [] | fail))
  all_goals omega
 rintro m env σ ⟨rfl, rfl⟩
 repeat' (first | refine goR rfl ?_ | refine goS rfl ?_ | refine tret1 rfl ?_ | refine tretN rfl ?_ | refine gY rfl rfl ?_ | refine gN rfl rfl ?_ | refine qT rfl rfl ?_ | refine qF rfl rfl ?_ | fail)
 refine twret rfl ?_ ⟨rfl, rfl⟩
 (refine w_ren [(0, 2), (1, 3)] rfl (by rw [hp]; decide) rfl ?_ ?_ <;> repeat' (first | exact .nil | exact .f _ rfl | exact .s _ _ _ _ _ _ rfl | exact .p _ _ _ rfl | exact .rows _ _ _ | exact .iter _ _ | exact RenL.nil _ | refine RenL.cons ?_ ?_ | refine .cells _ _ _ ?_ | refine .cons _ _ _ _ rfl ?_ ?_ | refine .cons _ _ _ _ _ rfl rfl ?_ ?_ | refine .rowsE ?_ | refine .sE rfl ?_ | exact .m _ _ rfl | refine .fE rfl ?_ | exact rnT_ok rfl | exact RenO.mB _ | exact RenO.mB [] | fail))
end
end Go.Proofs.YtnphhelbianjpaaGreatDoor
namespace Go.Proofs.YtnphhelbianjpaaGreatDoor
set_option maxRecDepth 20000
open Go Go.Proofs.YtnphhelbianjpaaGreatDoor.V Go.Proofs
section
attribute [local irreducible] TwS TwR thenT inBlockT retT
variable {G : World → Prop}
theorem startS_own (p : Prg) (hs : okS (start0 p)) (hb : (start0 p).bufs = []) : TC prog G 68 [.fp (cCore p) 0] ⟨[], 0⟩ [] (fun r σ' => r = .agg [.s 0 1 0 (start0 p).mem.length true, .s 1 16 0 (start0 p).thr.length true, .v (.slice none 0 0), tI (start0 p).lock] ∧ σ' = ⟨[(0, memT (start0 p)), (1, thrT (start0 p))], 2⟩) := by
 have c := copySt_own (G := G) (start0 p) hs hb
 refine TC.at mixedOk F68 rfl fun C hP hG hp => goF ?_; simp only [F68, targEnv, Nat.zero_add, Nat.reduceAdd]
 repeat' (first | refine goR rfl ?_ | refine goS rfl ?_ | refine tret1 rfl ?_ | refine tretN rfl ?_ | refine gY rfl rfl ?_ | refine gN rfl rfl ?_ | refine qT rfl rfl ?_ | refine qF rfl rfl ?_ | refine tr_mcallB hP hG (c) rfl [] rfl rfl rfl rfl rfl rfl ?_ | fail)
 refine twret rfl ?_ ⟨rfl, rfl⟩
 (refine w_ren [(0, 1), (1, 2)] rfl (by rw [hp]; decide) rfl ?_ ?_ <;> repeat' (first | exact .nil | exact .f _ rfl | exact .s _ _ _ _ _ _ rfl | exact .p _ _ _ rfl | exact .rows _ _ _ | exact .iter _ _ | exact RenL.nil _ | refine RenL.cons ?_ ?_ | refine .cells _ _ _ ?_ | refine .cons _ _ _ _ rfl ?_ ?_ | refine .cons _ _ _ _ _ rfl rfl ?_ ?_ | refine .rowsE ?_ | refine .sE rfl ?_ | exact .m _ _ rfl | refine .fE rfl ?_ | exact rnT_ok rfl | exact RenO.mB _ | exact RenO.mB [] | fail))
end
end Go.Proofs.YtnphhelbianjpaaGreatDoor
