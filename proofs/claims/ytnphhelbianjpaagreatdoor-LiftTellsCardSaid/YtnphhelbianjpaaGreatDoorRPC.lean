/-
  Walks of functions of the program, and what the laws need of them.
-/
import Derived.Test.YtnphhelbianjpaaGreatDoorRPB
import Derived.Test.YtnphhelbianjpaaGreatDoorVH
set_option linter.all false
set_option linter.unusedSimpArgs false
set_option linter.unusedVariables false
set_option linter.unnecessarySimpa false
namespace Go.Proofs.YtnphhelbianjpaaGreatDoor
set_option maxRecDepth 20000
open Go Go.Proofs.YtnphhelbianjpaaGreatDoor.V Go.Proofs

def memK (o : Opd) : Bool := decide (o.kind = 3 ∨ o.kind = 4)
def plK (o : Opd) : Bool := decide (o.kind = 1 ∨ o.kind = 2)
def rowB (i : Ins) : Bool := if i.op < 1 ∨ 9 < i.op then isZero i.a && (isZero i.b && !i.lock) else if okOpd i.a = true ∧ okOpd i.b = true then
 (if i.op = 8 then memK i.a && (decide (i.b.kind = 1) && !i.lock) else if i.op = 9 then memK i.a && (decide (i.b.kind = 1) && i.lock) else if i.a.kind = 1 then (plK i.b || memK i.b) && !i.lock else memK i.a && (plK i.b && (!i.lock || decide (2 ≤ i.op ∧ i.op ≤ 6)))) else false
def rInsRight (i : Ins) : Int := if i.op < 1 ∨ 14 < i.op ∨ rowB i = false ∨ (jumpB i = false ∧ i.to ≠ bs []) then 4 else if (i.op = 11 ∧ (i.cond < 1 ∨ 10 < i.cond)) ∨ (i.op ≠ 11 ∧ i.cond ≠ 0) then 4 else if jumpB i = true ∧ rightB i.to = false then 3 else 0

theorem mem_iff (o : Opd) : isMem o = (okOpd o && memK o) := rfl
theorem reg_iff (o : Opd) : isReg o = (okOpd o && decide (o.kind = 1)) := rfl
theorem plain_iff (o : Opd) : isPlain o = (okOpd o && plK o) := by
 unfold isPlain isMem plK
 cases h : okOpd o with
 | false => rfl
 | true =>
  have := part_kinds h
  simp only [Bool.true_and]
  rw [Bool.eq_iff_iff]
  simp only [Bool.not_eq_true', decide_eq_false_iff_not, decide_eq_true_eq]
  omega
theorem row_fits (i : Ins) : (decide (1 ≤ i.op ∧ i.op ≤ 14) && (rowB i && condB i)) = fitsB i := by
 unfold fitsB
 cases hc : condB i with
 | false => simp
 | true =>
  rw [Bool.and_true, Bool.true_and]
  unfold rowB formB twoB
  by_cases h0 : 1 ≤ i.op ∧ i.op ≤ 14
  ·rw [dT h0, Bool.true_and]
   by_cases h1 : 9 < i.op
   ·rw [if_pos (Or.inr h1), if_neg (by omega), if_neg (by omega), if_neg (by omega), if_pos (by omega)]
    cases i.lock <;> cases isZero i.a <;> cases isZero i.b <;> rfl
   ·rw [if_neg (show ¬ (i.op < 1 ∨ 9 < i.op) by omega)]
    simp only [mem_iff, reg_iff, plain_iff]
    cases ha : okOpd i.a with
    | false => simp only [Bool.false_and, false_and, if_false, Bool.false_eq_true, Bool.or_self]; repeat' split
               all_goals first | rfl | omega
    | true =>
     cases hb : okOpd i.b with
     | false => simp only [Bool.false_and, Bool.and_false, and_false, if_false, Bool.false_eq_true, Bool.or_self]; repeat' split
                all_goals first | rfl | omega
     | true =>
      simp only [Bool.true_and, and_self, if_true]
      by_cases h8 : i.op = 8
      ·rw [if_pos h8, if_neg (by omega), if_neg (by omega), if_pos (by omega), dF (show ¬ i.op = 9 by omega)]
       cases memK i.a <;> cases decide (i.b.kind = 1) <;> cases i.lock <;> rfl
      ·by_cases h9 : i.op = 9
       ·rw [if_neg h8, if_pos h9, if_neg (by omega), if_neg (by omega), if_pos (by omega), dT h9]
        cases memK i.a <;> cases decide (i.b.kind = 1) <;> cases i.lock <;> rfl
       ·rw [if_neg h8, if_neg h9]
        by_cases h17 : i.op = 1 ∨ i.op = 7
        ·rw [if_pos h17, dF (show ¬ (2 ≤ i.op ∧ i.op ≤ 6) by omega)]
         by_cases hk : i.a.kind = 1
         ·rw [if_pos hk, dT hk]
          have hm : memK i.a = false := by unfold memK; exact dF (by omega)
          rw [hm]; cases plK i.b <;> cases memK i.b <;> cases i.lock <;> rfl
         ·rw [if_neg hk, dF hk]
          cases memK i.a <;> cases plK i.b <;> cases memK i.b <;> cases i.lock <;> rfl
        ·rw [if_neg h17, if_pos (show 2 ≤ i.op ∧ i.op ≤ 6 by omega), dT (show (2 ≤ i.op ∧ i.op ≤ 6) by omega)]
         by_cases hk : i.a.kind = 1
         ·rw [if_pos hk, dT hk]
          have hm : memK i.a = false := by unfold memK; exact dF (by omega)
          rw [hm]; cases plK i.b <;> cases memK i.b <;> cases i.lock <;> rfl
         ·rw [if_neg hk, dF hk]
          cases memK i.a <;> cases plK i.b <;> cases memK i.b <;> cases i.lock <;> rfl
  ·rw [dF h0, Bool.false_and, if_neg (by omega), if_neg (by omega), if_neg (by omega), if_neg (by omega)]
theorem rIns_eq (i : Ins) : rInsRight i = insRight i := by
 unfold rInsRight insRight
 have h := row_fits i
 by_cases hf : fitsB i = true
 ·rw [hf] at h
  simp only [Bool.and_eq_true, decide_eq_true_eq] at h
  obtain ⟨h1, h2, h3⟩ := h
  unfold condB at h3
  rw [h2, hf]
  by_cases hj : jumpB i = false ∧ i.to ≠ bs []
  ·rw [if_pos (.inr (.inr (.inr hj))), if_pos (.inr hj)]
  ·rw [if_neg (by simp only [Bool.true_eq_false, false_or, not_or]; exact ⟨by omega, by omega, hj⟩), if_neg (c := true = false ∨ _) (by simp only [Bool.true_eq_false, false_or]; exact hj), if_neg]
   split at h3 <;> simp only [decide_eq_true_eq] at h3 <;> omega
 ·rw [Bool.not_eq_true] at hf
  rw [hf] at h
  rw [if_pos (c := fitsB i = false ∨ _) (.inl hf)]
  by_cases hA : i.op < 1 ∨ 14 < i.op ∨ rowB i = false ∨ (jumpB i = false ∧ i.to ≠ bs [])
  ·rw [if_pos hA]
  ·rw [if_neg hA, if_pos]
   simp only [not_or] at hA
   obtain ⟨h1, h2, h3, _⟩ := hA
   rw [Bool.not_eq_false] at h3
   rw [dT (by omega), h3, Bool.true_and, Bool.true_and] at h
   unfold condB at h
   split at h <;> simp only [decide_eq_false_iff_not] at h <;> omega
theorem isZero_def' (o : Opd) : isZero o = beqL [.int .i64 o.kind, .int .i64 o.reg, .int .i64 o.sym, .int .i64 o.n] [.int .i64 0, .int .i64 0, .int .i64 0, .int .i64 0] := rfl
section
attribute [local irreducible] TwS TwR thenT inBlockT retT okReg
variable {G : World → Prop}
theorem opdRight_spec2 (o : Opd) : Pure prog G 116 [.agg (cOpd o)] (tB (okOpd o)) := by
 refine Pure.at mixedOk F116 rfl fun C hP hG hp => goF ?_; simp only [F116, targEnv, Nat.zero_add, Nat.reduceAdd]
 repeat' (first | refine goR rfl ?_ | refine goS rfl ?_ | refine tret1 rfl ?_ | refine tretN rfl ?_ | refine gY rfl rfl ?_ | refine gN rfl rfl ?_ | refine qT rfl rfl ?_ | refine qF rfl rfl ?_ | ((first | refine gS rfl (fun h => ?_) (fun h => ?_) | refine ts_cond rfl (fun h => ?_) (fun h => ?_)) <;> try simp only [bs0, beq_iff_eq] at h) | fail)
 all_goals exact .vb (by rw [Bool.eq_iff_iff]; simp only [okOpd, decide_eq_true_eq, Bool.and_eq_true, Bool.or_eq_true, Bool.not_eq_true', decide_eq_false_iff_not, Bool.false_eq_true, true_iff, iff_true, false_iff, iff_false]; omega)
theorem memory_spec2 (o : Opd) : Pure prog G 86 [.agg (cOpd o)] (tB (memK o)) := by
 refine Pure.at mixedOk F86 rfl fun C hP hG hp => goF ?_; simp only [F86, targEnv, Nat.zero_add, Nat.reduceAdd]
 repeat' (first | refine goR rfl ?_ | refine goS rfl ?_ | refine tret1 rfl ?_ | refine tretN rfl ?_ | refine gY rfl rfl ?_ | refine gN rfl rfl ?_ | refine qT rfl rfl ?_ | refine qF rfl rfl ?_ | ((first | refine gS rfl (fun h => ?_) (fun h => ?_) | refine ts_cond rfl (fun h => ?_) (fun h => ?_)) <;> try simp only [bs0, beq_iff_eq] at h) | fail)
 all_goals exact .vb (by rw [Bool.eq_iff_iff]; simp only [memK, decide_eq_true_eq, Bool.and_eq_true, Bool.or_eq_true, Bool.not_eq_true', decide_eq_false_iff_not, Bool.false_eq_true, true_iff, iff_true, false_iff, iff_false]; omega)
theorem plain_spec2 (o : Opd) : Pure prog G 136 [.agg (cOpd o)] (tB (plK o)) := by
 refine Pure.at mixedOk F136 rfl fun C hP hG hp => goF ?_; simp only [F136, targEnv, Nat.zero_add, Nat.reduceAdd]
 repeat' (first | refine goR rfl ?_ | refine goS rfl ?_ | refine tret1 rfl ?_ | refine tretN rfl ?_ | refine gY rfl rfl ?_ | refine gN rfl rfl ?_ | refine qT rfl rfl ?_ | refine qF rfl rfl ?_ | ((first | refine gS rfl (fun h => ?_) (fun h => ?_) | refine ts_cond rfl (fun h => ?_) (fun h => ?_)) <;> try simp only [bs0, beq_iff_eq] at h) | fail)
 all_goals exact .vb (by rw [Bool.eq_iff_iff]; simp only [plK, decide_eq_true_eq, Bool.and_eq_true, Bool.or_eq_true, Bool.not_eq_true', decide_eq_false_iff_not, Bool.false_eq_true, true_iff, iff_true, false_iff, iff_false]; omega)
theorem reckons_spec2 (op : Int) : Pure prog G 88 [tI op] (tB (decide (2 ≤ op ∧ op ≤ 6))) := by
 refine Pure.at mixedOk F88 rfl fun C hP hG hp => goF ?_; simp only [F88, targEnv, Nat.zero_add, Nat.reduceAdd]
 repeat' (first | refine goR rfl ?_ | refine goS rfl ?_ | refine tret1 rfl ?_ | refine tretN rfl ?_ | refine gY rfl rfl ?_ | refine gN rfl rfl ?_ | refine qT rfl rfl ?_ | refine qF rfl rfl ?_ | ((first | refine gS rfl (fun h => ?_) (fun h => ?_) | refine ts_cond rfl (fun h => ?_) (fun h => ?_)) <;> try simp only [bs0, beq_iff_eq] at h) | fail)
 all_goals exact .vb (by rw [Bool.eq_iff_iff]; simp only [decide_eq_true_eq, Bool.and_eq_true, Bool.or_eq_true, Bool.not_eq_true', decide_eq_false_iff_not, Bool.false_eq_true, true_iff, iff_true, false_iff, iff_false]; omega)
theorem jumps_spec2 (op : Int) : Pure prog G 100 [tI op] (tB (decide (op = 10) || decide (op = 11))) := by
 refine Pure.at mixedOk F100 rfl fun C hP hG hp => goF ?_; simp only [F100, targEnv, Nat.zero_add, Nat.reduceAdd]
 repeat' (first | refine goR rfl ?_ | refine goS rfl ?_ | refine tret1 rfl ?_ | refine tretN rfl ?_ | refine gY rfl rfl ?_ | refine gN rfl rfl ?_ | refine qT rfl rfl ?_ | refine qF rfl rfl ?_ | ((first | refine gS rfl (fun h => ?_) (fun h => ?_) | refine ts_cond rfl (fun h => ?_) (fun h => ?_)) <;> try simp only [bs0, beq_iff_eq] at h) | fail)
 all_goals exact .vb (by rw [Bool.eq_iff_iff]; simp only [decide_eq_true_eq, Bool.and_eq_true, Bool.or_eq_true, Bool.not_eq_true', decide_eq_false_iff_not, Bool.false_eq_true, true_iff, iff_true, false_iff, iff_false]; omega)
attribute [local irreducible] okOpd memK plK isZero beqL
set_option maxHeartbeats 1000000 in
theorem row_spec (i : Ins) : Pure prog G 121 [.agg (cIns i)] (tB (rowB i)) := by
 refine Pure.at mixedOk F121 rfl fun C hP hG hp => goF ?_; simp only [F121, targEnv, Nat.zero_add, Nat.reduceAdd]
 repeat' (first | refine goR rfl ?_ | refine goS rfl ?_ | refine tret1 rfl ?_ | refine tretN rfl ?_ | refine gY rfl rfl ?_ | refine gN rfl rfl ?_ | refine qT rfl rfl ?_ | refine qF rfl rfl ?_ | refine cA rfl (by rw [hP]; exact opdRight_spec2 i.a) rfl ?_ | refine cA rfl (by rw [hP]; exact opdRight_spec2 i.b) rfl ?_ | refine cA rfl (by rw [hP]; exact memory_spec2 i.a) rfl ?_ | refine cA rfl (by rw [hP]; exact memory_spec2 i.b) rfl ?_ | refine cA rfl (by rw [hP]; exact plain_spec2 i.b) rfl ?_ | refine cA rfl (by rw [hP]; exact reckons_spec2 _) rfl ?_ | refine lT (tl_eqs (by rw [hP]; exact sh_opd) (by rw [hP]; exact ag_opd) (by rw [hP]; exact eg_opd) rfl rfl rfl rfl rfl rfl) ?_ | ((first | refine gS rfl (fun h => ?_) (fun h => ?_) | refine ts_cond rfl (fun h => ?_) (fun h => ?_)) <;> try simp only [bs0, beq_iff_eq] at h) | fail)
 all_goals refine .vb ?_
 all_goals unfold rowB
 all_goals first | rw [if_pos (by omega), isZero_def', isZero_def'] | rw [if_neg (by omega)]
 all_goals simp_all
theorem insRight_spec2 (i : Ins) (hs : i.to.size ≤ 1000000000000) : Pure prog Tabs 98 [.agg (cIns i)] (tI (insRight i)) := by
 rw [← rIns_eq]
 refine Pure.at mixedOk F98 rfl fun C hP hG hp => goF ?_; simp only [F98, targEnv, Nat.zero_add, Nat.reduceAdd]
 repeat' (first | refine goR rfl ?_ | refine goS rfl ?_ | refine tret1 rfl ?_ | refine tretN rfl ?_ | refine gY rfl rfl ?_ | refine gN rfl rfl ?_ | refine qT rfl rfl ?_ | refine qF rfl rfl ?_ | refine cA rfl (by rw [hP, hG]; exact row_spec i) rfl ?_ | refine cA rfl (by rw [hP, hG]; exact jumps_spec2 _) rfl ?_ | refine cA rfl (by rw [hP, hG]; exact right_spec2 i.to hs) rfl ?_ | ((first | refine gS rfl (fun h => ?_) (fun h => ?_) | refine ts_cond rfl (fun h => ?_) (fun h => ?_)) <;> try simp only [bs0, beq_iff_eq] at h) | fail)
 all_goals refine .vi ?_
 all_goals unfold rInsRight jumpB
 all_goals simp_all
 all_goals omega
end
theorem op_le {i : Ins} (h : insRight i = 0) (h2 : isMem i.a = true ∨ isMem i.b = true) : i.op ≤ 9 := by
 unfold insRight at h
 split at h
 ·cases h
 ·rename_i hf
  simp only [not_or, Bool.not_eq_false] at hf
  have hf := hf.1
  unfold fitsB formB at hf
  rw [Bool.and_eq_true] at hf
  have hf := hf.2
  split at hf
  ·omega
  ·split at hf
   ·omega
   ·split at hf
    ·omega
    ·split at hf
     ·simp only [Bool.and_eq_true] at hf
      have ha := hf.1.2
      have hb := hf.2
      unfold isZero at ha hb
      simp only [Bool.and_eq_true, decide_eq_true_eq] at ha hb
      unfold isMem at h2
      simp only [Bool.and_eq_true, decide_eq_true_eq] at h2
      omega
     ·cases hf
theorem memK_of {i : Ins} (h : insRight i = 0) : memK i.a = isMem i.a ∧ memK i.b = isMem i.b := by
 rw [mem_iff, mem_iff]
 have hr := row_fits i
 have hf : fitsB i = true := by
  unfold insRight at h
  split at h
  ·cases h
  ·rename_i hf
   simp only [not_or, Bool.not_eq_false] at hf
   exact hf.1
 rw [hf] at hr
 simp only [Bool.and_eq_true] at hr
 have hr := hr.2.1
 unfold rowB at hr
 split at hr
 ·simp only [Bool.and_eq_true] at hr
  have ha := hr.1
  have hb := hr.2.1
  unfold isZero at ha hb
  simp only [Bool.and_eq_true, decide_eq_true_eq] at ha hb
  have e1 : memK i.a = false := by unfold memK; exact dF (by omega)
  have e2 : memK i.b = false := by unfold memK; exact dF (by omega)
  rw [e1, e2, Bool.and_false, Bool.and_false]; exact ⟨rfl, rfl⟩
 ·split at hr
  ·rename_i h1
   rw [h1.1, h1.2]; exact ⟨rfl, rfl⟩
  ·cases hr
theorem op_gt {i : Ins} (h : insRight i = 0) (h2 : 9 < i.op) : isMem i.a = false ∧ isMem i.b = false := by
 cases ha : isMem i.a with
 | true => have := op_le h (.inl ha); omega
 | false => cases hb : isMem i.b with
  | true => have := op_le h (.inr hb); omega
  | false => exact ⟨rfl, rfl⟩
section
attribute [local irreducible] TwS TwR thenT inBlockT retT okOpd okReg isReg isMem isPlain fitsB rightB insRight memK
theorem reads_spec2 (i : Ins) (hs : i.to.size ≤ 1000000000000) : Pure prog Tabs 79 [.agg (cIns i)] (.tup [.agg (cOpd (readsO i)), tB (readsB i)]) := by
 refine Pure.at mixedOk F79 rfl fun C hP hG hp => goF ?_; simp only [F79, targEnv, Nat.zero_add, Nat.reduceAdd]
 repeat' (first | refine goR rfl ?_ | refine goS rfl ?_ | refine tret1 rfl ?_ | refine tretN rfl ?_ | refine gY rfl rfl ?_ | refine gN rfl rfl ?_ | refine qT rfl rfl ?_ | refine qF rfl rfl ?_ | refine cA rfl (by rw [hP, hG]; exact insRight_spec2 i hs) rfl ?_ | refine cA rfl (by rw [hP, hG]; exact memory_spec2 i.a) rfl ?_ | refine cA rfl (by rw [hP, hG]; exact memory_spec2 i.b) rfl ?_ | ((first | refine gS rfl (fun h => ?_) (fun h => ?_) | refine ts_cond rfl (fun h => ?_) (fun h => ?_)) <;> try simp only [bs0, beq_iff_eq] at h) | fail)
 all_goals refine .eqT rfl ?_
 all_goals (by_cases hr : insRight i = 0
            · have h1 := memK_of hr
              have h2 := op_gt hr
              simp_all [toTV, readsO, readsB, noOpd, cOpd]
            · simp_all [toTV, readsO, readsB, noOpd, cOpd])
theorem writes_spec2 (i : Ins) (hs : i.to.size ≤ 1000000000000) : Pure prog Tabs 80 [.agg (cIns i)] (.tup [.agg (cOpd (writesO i)), tB (writesB i)]) := by
 refine Pure.at mixedOk F80 rfl fun C hP hG hp => goF ?_; simp only [F80, targEnv, Nat.zero_add, Nat.reduceAdd]
 repeat' (first | refine goR rfl ?_ | refine goS rfl ?_ | refine tret1 rfl ?_ | refine tretN rfl ?_ | refine gY rfl rfl ?_ | refine gN rfl rfl ?_ | refine qT rfl rfl ?_ | refine qF rfl rfl ?_ | refine cA rfl (by rw [hP, hG]; exact insRight_spec2 i hs) rfl ?_ | refine cA rfl (by rw [hP, hG]; exact memory_spec2 i.a) rfl ?_ | refine cA rfl (by rw [hP, hG]; exact memory_spec2 i.b) rfl ?_ | ((first | refine gS rfl (fun h => ?_) (fun h => ?_) | refine ts_cond rfl (fun h => ?_) (fun h => ?_)) <;> try simp only [bs0, beq_iff_eq] at h) | fail)
 all_goals refine .eqT rfl ?_
 all_goals (by_cases hr : insRight i = 0
            · have h1 := memK_of hr
              have h2 := op_gt hr
              simp_all [toTV, writesO, writesB, noOpd, cOpd]
            · simp_all [toTV, writesO, writesB, noOpd, cOpd])
theorem locked_spec2 (i : Ins) (hs : i.to.size ≤ 1000000000000) : Pure prog Tabs 84 [.agg (cIns i)] (tB (lockedB i)) := by
 refine Pure.at mixedOk F84 rfl fun C hP hG hp => goF ?_; simp only [F84, targEnv, Nat.zero_add, Nat.reduceAdd]
 repeat' (first | refine goR rfl ?_ | refine goS rfl ?_ | refine tret1 rfl ?_ | refine tretN rfl ?_ | refine gY rfl rfl ?_ | refine gN rfl rfl ?_ | refine qT rfl rfl ?_ | refine qF rfl rfl ?_ | refine cA rfl (by rw [hP, hG]; exact insRight_spec2 i hs) rfl ?_ | ((first | refine gS rfl (fun h => ?_) (fun h => ?_) | refine ts_cond rfl (fun h => ?_) (fun h => ?_)) <;> try simp only [bs0, beq_iff_eq] at h) | fail)
 all_goals refine .vb ?_
 all_goals simp_all [lockedB]
attribute [local irreducible] readsB writesB lockedB readsO writesO
theorem parts_spec2 (i : Ins) (hs : i.to.size ≤ 1000000000000) : Pure prog Tabs 85 [.agg (cIns i)] (tI (partsI i)) := by
 refine Pure.at mixedOk F85 rfl fun C hP hG hp => goF ?_; simp only [F85, targEnv, Nat.zero_add, Nat.reduceAdd]
 repeat' (first | refine goR rfl ?_ | refine goS rfl ?_ | refine tret1 rfl ?_ | refine tretN rfl ?_ | refine gY rfl rfl ?_ | refine gN rfl rfl ?_ | refine qT rfl rfl ?_ | refine qF rfl rfl ?_ | refine cA rfl (by rw [hP, hG]; exact insRight_spec2 i hs) rfl ?_ | refine cA rfl (by rw [hP, hG]; exact reads_spec2 i hs) rfl ?_ | refine cA rfl (by rw [hP, hG]; exact writes_spec2 i hs) rfl ?_ | refine cA rfl (by rw [hP, hG]; exact locked_spec2 i hs) rfl ?_ | ((first | refine gS rfl (fun h => ?_) (fun h => ?_) | refine ts_cond rfl (fun h => ?_) (fun h => ?_)) <;> try simp only [bs0, beq_iff_eq] at h) | fail)
 all_goals refine .vi ?_
 all_goals simp_all [partsI]
end
end Go.Proofs.YtnphhelbianjpaaGreatDoor
namespace Go.Proofs.YtnphhelbianjpaaGreatDoor
set_option maxRecDepth 20000
open Go Go.Proofs.YtnphhelbianjpaaGreatDoor.V Go.Proofs

structure Sym where
 name : ByteArray
 size : Int
 init : List Int
structure Prg where
 syms : List Sym
 threads : List (List Ins)
def rwI (l : List Int) : TV := .lst 1 (l.map fun n => [tI n])
def cSym (s : Sym) : List TV := [tS s.name, tI s.size, rwI s.init]
def cTh (t : List Ins) : List TV := [.lst 13 (t.map cIns)]
def cPrg (p : Prg) : List TV := [.lst 3 (p.syms.map cSym), .lst 1 (p.threads.map cTh)]
structure Thr where
 r0 : Int
 r1 : Int
 r2 : Int
 r3 : Int
 r4 : Int
 r5 : Int
 r6 : Int
 r7 : Int
 f : Flags
 pc : Int
 ph : Int
 la : Int
 st : Int
def cThr (x : Thr) : List TV := [tI x.r0, tI x.r1, tI x.r2, tI x.r3, tI x.r4, tI x.r5, tI x.r6, tI x.r7, tB x.f.z, tB x.f.s, tB x.f.c, tB x.f.o, tI x.pc, tI x.ph, tI x.la, tI x.st]
structure Entry where
 addr : Int
 val : Int
def cEntry (e : Entry) : List TV := [tI e.addr, tI e.val]
structure State where
 mem : List Int
 thr : List Thr
 bufs : List (List Entry)
 lock : Int
def cBuf (l : List Entry) : List TV := [.lst 2 (l.map cEntry)]
def cState (s : State) : List TV := [rwI s.mem, .lst 16 (s.thr.map cThr), .lst 1 (s.bufs.map cBuf), tI s.lock]
structure Deed where
 kind : Int
 addr : Int
 val : Int
def cDeed (d : Deed) : List TV := [tI d.kind, tI d.addr, tI d.val]

def allLabs (t : List Ins) : List ByteArray := t.flatMap fun i => i.labels
def okT (t : List Ins) : Prop := (t.length ≤ 1000000000 ∧ (allLabs t).length ≤ 1000000000) ∧ ∀ i ∈ t, i.to.size ≤ 1000000000 ∧ i.labels.length ≤ 1000000000 ∧ ∀ l ∈ i.labels, l.size ≤ 1000000000
def okP (p : Prg) : Prop := p.syms.length ≤ 1000000000 ∧ (∀ s ∈ p.syms, s.name.size ≤ 1000000000 ∧ s.init.length ≤ 1000000000) ∧ p.threads.length ≤ 1000000000 ∧ ∀ t ∈ p.threads, okT t
def countN (t : List Ins) : Nat := (t.filter fun i => !decide (i.op = 12)).length
theorem countN_le (t : List Ins) : countN t ≤ t.length := List.length_filter_le ..
theorem countN_app (a : List Ins) (i : Ins) : countN (a ++ [i]) = if i.op = 12 then countN a else countN a + 1 := by
 simp only [countN, List.filter_append, lA, List.filter_cons, List.filter_nil]
 by_cases h : i.op = 12 <;> simp [h]
section
attribute [local irreducible] TwS TwR thenT inBlockT retT
variable {G : World → Prop}
theorem count_spec (l : List Ins) (hl : l.length ≤ 1000000000) : Pure prog G 130 [.agg (cTh l)] (tI (countN l)) := by
 refine Pure.at mixedOk F130 rfl fun C hP hG hp => goF ?_; simp only [F130, targEnv, Nat.zero_add, Nat.reduceAdd]
 repeat' (first | refine goR rfl ?_ | refine goS rfl ?_ | refine tret1 rfl ?_ | refine tretN rfl ?_ | refine gY rfl rfl ?_ | refine gN rfl rfl ?_ | refine qT rfl rfl ?_ | refine qF rfl rfl ?_ | fail)
 refine loopS (fun m env σ => ∃ a b, l = a ++ b ∧ m = b.length ∧ env = [(3, tI (countN a)), (7, .lst 13 (l.map cIns)), (8, tI l.length), (9, tI a.length)] ∧ σ = ⟨[], 1⟩) l.length ?_ ⟨[], l, rfl, rfl, rfl, rfl⟩ ?_
 ·(refine w_ren [] rfl (by rw [hp]; intro j hj; cases hj) rfl ?_ ?_ <;> repeat' (first | exact .nil | exact .f _ rfl | exact .s _ _ _ _ _ _ rfl | exact .p _ _ _ rfl | exact .rows _ _ _ | exact .iter _ _ | exact RenL.nil _ | refine RenL.cons ?_ ?_ | refine .cells _ _ _ ?_ | refine .cons _ _ _ _ rfl ?_ ?_ | refine .cons _ _ _ _ _ rfl rfl ?_ ?_ | refine .rowsE ?_ | refine .sE rfl ?_ | exact .m _ _ rfl | refine .fE rfl ?_ | exact RenO.mB _ | exact RenO.mB [] | fail))
  all_goals first | rfl | rw [lM]
 rintro m env σ ⟨a, b, e, rfl, rfl, rfl⟩
 have hla : l.length = a.length + b.length := by rw [e, lA]
 have hca := countN_le a
 cases b with
 | nil =>
  rw [List.length_nil] at hla
  repeat' (first | refine goR rfl ?_ | refine goS rfl ?_ | refine tret1 rfl ?_ | refine tretN rfl ?_ | refine gY rfl rfl ?_ | refine gN rfl rfl ?_ | refine qT rfl rfl ?_ | refine qF rfl rfl ?_ | refine qF rfl (dF (by omega)) ?_ | fail)
  rw [e, List.append_nil]
  exact .fr rfl
 | cons x b =>
  have hx : l[a.length]? = some x := by rw [e]; exact ix
  simp only [List.length_cons] at hla
  have hc := countN_app a x
  repeat' (first | refine goR rfl ?_ | refine goS rfl ?_ | refine tret1 rfl ?_ | refine tretN rfl ?_ | refine gY rfl rfl ?_ | refine gN rfl rfl ?_ | refine qT rfl rfl ?_ | refine qF rfl rfl ?_ | refine qT rfl (dT (by omega)) ?_ | refine lT (tl_ixm rfl rfl rfl hx) ?_ | ((first | refine gS rfl (fun h => ?_) (fun h => ?_) | refine ts_cond rfl (fun h => ?_) (fun h => ?_)) <;> try simp only [bs0, beq_iff_eq] at h) | fail)
  all_goals refine again (m' := b.length) (Nat.lt_succ_self _) ?_ ⟨a ++ [x], b, by rw [e]; simp, rfl, rfl, rfl⟩
  all_goals (refine w_ren [] rfl (by rw [hp]; intro j hj; cases hj) rfl ?_ ?_ <;> repeat' (first | exact .nil | exact .f _ rfl | exact .s _ _ _ _ _ _ rfl | exact .p _ _ _ rfl | exact .rows _ _ _ | exact .iter _ _ | exact RenL.nil _ | refine RenL.cons ?_ ?_ | refine .cells _ _ _ ?_ | refine .cons _ _ _ _ rfl ?_ ?_ | refine .cons _ _ _ _ _ rfl rfl ?_ ?_ | refine .rowsE ?_ | refine .sE rfl ?_ | exact .m _ _ rfl | refine .fE rfl ?_ | exact RenO.mB _ | exact RenO.mB [] | fail))
  all_goals try (rw [w64 (by omega), lA, List.length_singleton]; rfl)
  all_goals (rw [hc]; first | (rw [if_neg h, w64 (by omega)]; rfl) | rw [if_pos h])
theorem count_spec2 (l : List Ins) (hl : l.length ≤ 1000000000) : Pure prog G 96 [.agg (cTh l)] (tI (countN l)) := by
 refine Pure.at mixedOk F96 rfl fun C hP hG hp => goF ?_; simp only [F96, targEnv, Nat.zero_add, Nat.reduceAdd]
 repeat' (first | refine goR rfl ?_ | refine goS rfl ?_ | refine tret1 rfl ?_ | refine tretN rfl ?_ | refine gY rfl rfl ?_ | refine gN rfl rfl ?_ | refine qT rfl rfl ?_ | refine qF rfl rfl ?_ | fail)
 refine loopS (fun m env σ => ∃ a b, l = a ++ b ∧ m = b.length ∧ env = [(1, .p 0 0), (3, tI (countN a)), (4, tI a.length)] ∧ σ = ⟨[(0, .cells (cTh l) 69)], 1⟩) l.length ?_ ⟨[], l, rfl, rfl, rfl, rfl⟩ ?_
 ·(refine w_ren [(0, 0)] rfl (by rw [hp]; intro j hj; cases hj) rfl ?_ ?_ <;> repeat' (first | exact .nil | exact .f _ rfl | exact .s _ _ _ _ _ _ rfl | exact .p _ _ _ rfl | exact .rows _ _ _ | exact .iter _ _ | exact RenL.nil _ | refine RenL.cons ?_ ?_ | refine .cells _ _ _ ?_ | refine .cons _ _ _ _ rfl ?_ ?_ | refine .cons _ _ _ _ _ rfl rfl ?_ ?_ | refine .rowsE ?_ | refine .sE rfl ?_ | exact .m _ _ rfl | refine .fE rfl ?_ | exact RenO.mB _ | exact RenO.mB [] | fail))
  all_goals rfl
 rintro m env σ ⟨a, b, e, rfl, rfl, rfl⟩
 have hla : l.length = a.length + b.length := by rw [e, lA]
 have hca := countN_le a
 cases b with
 | nil =>
  rw [List.length_nil] at hla
  repeat' (first | refine goR rfl ?_ | refine goS rfl ?_ | refine tret1 rfl ?_ | refine tretN rfl ?_ | refine gY rfl rfl ?_ | refine gN rfl rfl ?_ | refine qT rfl rfl ?_ | refine qF rfl rfl ?_ | refine qF rfl (dF (by rw [lM]; omega)) ?_ | fail)
  rw [e, List.append_nil]
  exact .fr rfl
 | cons x b =>
  have hx : l[a.length]? = some x := by rw [e]; exact ix
  simp only [List.length_cons] at hla
  have hc := countN_app a x
  repeat' (first | refine goR rfl ?_ | refine goS rfl ?_ | refine tret1 rfl ?_ | refine tretN rfl ?_ | refine gY rfl rfl ?_ | refine gN rfl rfl ?_ | refine qT rfl rfl ?_ | refine qF rfl rfl ?_ | refine qT rfl (dT (by rw [lM]; omega)) ?_ | refine lT (tl_ixm rfl rfl rfl hx) ?_ | ((first | refine gS rfl (fun h => ?_) (fun h => ?_) | refine ts_cond rfl (fun h => ?_) (fun h => ?_)) <;> try simp only [bs0, beq_iff_eq] at h) | fail)
  all_goals refine again (m' := b.length) (Nat.lt_succ_self _) ?_ ⟨a ++ [x], b, by rw [e]; simp, rfl, rfl, rfl⟩
  all_goals (refine w_ren [(0, 0)] rfl (by rw [hp]; intro j hj; cases hj) rfl ?_ ?_ <;> repeat' (first | exact .nil | exact .f _ rfl | exact .s _ _ _ _ _ _ rfl | exact .p _ _ _ rfl | exact .rows _ _ _ | exact .iter _ _ | exact RenL.nil _ | refine RenL.cons ?_ ?_ | refine .cells _ _ _ ?_ | refine .cons _ _ _ _ rfl ?_ ?_ | refine .cons _ _ _ _ _ rfl rfl ?_ ?_ | refine .rowsE ?_ | refine .sE rfl ?_ | exact .m _ _ rfl | refine .fE rfl ?_ | exact RenO.mB _ | exact RenO.mB [] | fail))
  all_goals try (rw [w64 (by omega), lA, List.length_singleton]; rfl)
  all_goals (rw [hc]; first | (rw [if_neg h, w64 (by omega)]; rfl) | rw [if_pos h])
def optI : Option Nat → Int
 | some k => (k : Int)
 | none => -1
def findI (l : List Ins) (s : ByteArray) : Option Nat := l.findIdx? fun i => (idx i.labels s).isSome
theorem idxI_ge (l : List ByteArray) (s : ByteArray) : decide (0 ≤ idxI l s) = (idx l s).isSome := by
 unfold idxI
 cases idx l s <;> simp
theorem findI_spec (l : List Ins) (s : ByteArray) (hl : l.length ≤ 1000000000) : Pure prog G 90 [.agg (cTh l), tS s] (tI (optI (findI l s))) := by
 refine Pure.at mixedOk F90 rfl fun C hP hG hp => goF ?_; simp only [F90, targEnv, Nat.zero_add, Nat.reduceAdd]
 repeat' (first | refine goR rfl ?_ | refine goS rfl ?_ | refine tret1 rfl ?_ | refine tretN rfl ?_ | refine gY rfl rfl ?_ | refine gN rfl rfl ?_ | refine qT rfl rfl ?_ | refine qF rfl rfl ?_ | fail)
 refine loopS (fun m env σ => ∃ a b, l = a ++ b ∧ m = b.length ∧ (∀ i ∈ a, (idx i.labels s).isSome = false) ∧ env = [(1, tS s), (2, .p 0 0), (5, tI a.length)] ∧ σ = ⟨[(0, .cells (cTh l) 69)], 1⟩) l.length ?_ ⟨[], l, rfl, rfl, by simp, rfl, rfl⟩ ?_
 ·(refine w_ren [(0, 0)] rfl (by rw [hp]; intro j hj; cases hj) rfl ?_ ?_ <;> repeat' (first | exact .nil | exact .f _ rfl | exact .s _ _ _ _ _ _ rfl | exact .p _ _ _ rfl | exact .rows _ _ _ | exact .iter _ _ | exact RenL.nil _ | refine RenL.cons ?_ ?_ | refine .cells _ _ _ ?_ | refine .cons _ _ _ _ rfl ?_ ?_ | refine .cons _ _ _ _ _ rfl rfl ?_ ?_ | refine .rowsE ?_ | refine .sE rfl ?_ | exact .m _ _ rfl | refine .fE rfl ?_ | exact RenO.mB _ | exact RenO.mB [] | fail))
 rintro m env σ ⟨a, b, e, rfl, ha, rfl, rfl⟩
 have hla : l.length = a.length + b.length := by rw [e, lA]
 cases b with
 | nil =>
  rw [List.length_nil] at hla
  repeat' (first | refine goR rfl ?_ | refine goS rfl ?_ | refine tret1 rfl ?_ | refine tretN rfl ?_ | refine gY rfl rfl ?_ | refine gN rfl rfl ?_ | refine qT rfl rfl ?_ | refine qF rfl rfl ?_ | refine qF rfl (dF (by rw [lM]; omega)) ?_ | fail)
  have : findI l s = none := by rw [e, List.append_nil]; exact List.findIdx?_eq_none_iff.2 ha
  rw [this]
  exact .fr rfl
 | cons x b =>
  have hx : l[a.length]? = some x := by rw [e]; exact ix
  simp only [List.length_cons] at hla
  repeat' (first | refine goR rfl ?_ | refine goS rfl ?_ | refine tret1 rfl ?_ | refine tretN rfl ?_ | refine gY rfl rfl ?_ | refine gN rfl rfl ?_ | refine qT rfl rfl ?_ | refine qF rfl rfl ?_ | refine qT rfl (dT (by rw [lM]; omega)) ?_ | refine lT (tl_ixm rfl rfl rfl hx) ?_ | refine cA rfl (by rw [hP]; exact index_spec _ _) rfl ?_ | ((first | refine gS rfl (fun h => ?_) (fun h => ?_) | refine ts_cond rfl (fun h => ?_) (fun h => ?_)) <;> try simp only [bs0, beq_iff_eq] at h) | fail)
  ·have hi := idxI_ge x.labels s
   rw [dT (by assumption)] at hi
   have : findI l s = some a.length := by
    rw [e]; unfold findI
    rw [List.findIdx?_append, List.findIdx?_eq_none_iff.2 ha, List.findIdx?_cons, ← hi]
    simp
   rw [this]
   exact .fr rfl
  ·have hi := idxI_ge x.labels s
   rw [dF (by assumption)] at hi
   refine again (m' := b.length) (Nat.lt_succ_self _) ?_ ⟨a ++ [x], b, by rw [e]; simp, rfl, ?_, rfl, rfl⟩
   ·(refine w_ren [(0, 0)] rfl (by rw [hp]; intro j hj; cases hj) rfl ?_ ?_ <;> repeat' (first | exact .nil | exact .f _ rfl | exact .s _ _ _ _ _ _ rfl | exact .p _ _ _ rfl | exact .rows _ _ _ | exact .iter _ _ | exact RenL.nil _ | refine RenL.cons ?_ ?_ | refine .cells _ _ _ ?_ | refine .cons _ _ _ _ rfl ?_ ?_ | refine .cons _ _ _ _ _ rfl rfl ?_ ?_ | refine .rowsE ?_ | refine .sE rfl ?_ | exact .m _ _ rfl | refine .fE rfl ?_ | exact RenO.mB _ | exact RenO.mB [] | fail))
    rw [w64 (by omega), lA, List.length_singleton]; rfl
   ·intro i hm
    rcases List.mem_append.1 hm with hm | hm
    ·exact ha i hm
    ·rw [List.mem_singleton.1 hm]; exact hi.symm
end
end Go.Proofs.YtnphhelbianjpaaGreatDoor
namespace Go.Proofs.YtnphhelbianjpaaGreatDoor
set_option maxRecDepth 20000
open Go Go.Proofs.YtnphhelbianjpaaGreatDoor.V Go.Proofs

def memQ (o : Opd) : Bool := decide (o.kind = 3 ∨ o.kind = 4)
def placeC (l : List Sym) (o : Opd) : Int := if memQ o = true then (if o.sym < 0 then 7 else match l[o.sym.toNat]? with | none => 7 | some s => if o.kind = 3 ∧ s.size ≤ o.n then 8 else 0) else 0
def labsC : List ByteArray → List ByteArray → Int × List ByteArray
 | seen, [] => (0, seen)
 | seen, l :: ls => if rightB l = true then (if hasB l seen = true then (6, seen) else labsC (seen ++ [l]) ls) else (3, seen)
def insStep (syms : List Sym) (i : Ins) : Int := if insRight i = 0 then (if placeC syms i.a = 0 then placeC syms i.b else placeC syms i.a) else insRight i
def insC (syms : List Sym) : List ByteArray → List Ins → Int × List ByteArray
 | seen, [] => (0, seen)
 | seen, i :: is => if (labsC seen i.labels).1 = 0 then (if insStep syms i = 0 then insC syms (labsC seen i.labels).2 is else (insStep syms i, seen)) else labsC seen i.labels
def lastB (t : List Ins) : Bool := match t.getLast? with | none => false | some i => decide (i.op = 10) || decide (i.op = 14)
def wayB (seen : List ByteArray) (t : List Ins) : Bool := t.all fun i => !jumpB i || hasB i.to seen
def threadC (syms : List Sym) (t : List Ins) : Int := if 4096 < countN t then 10 else if (insC syms [] t).1 = 0 then (if lastB t = true then (if wayB (insC syms [] t).2 t = true then 0 else 7) else 9) else (insC syms [] t).1
theorem insC_ok (syms : List Sym) : ∀ (t : List Ins) (seen : List ByteArray), (insC syms seen t).1 = 0 → ∀ i ∈ t, insStep syms i = 0
 | [], _, _, i, h => by cases h
 | x :: t, seen, h, i, hi => by
  simp only [insC] at h
  split at h
  ·split at h
   ·rcases List.mem_cons.1 hi with rfl | hi
    ·assumption
    ·exact insC_ok syms t _ h i hi
   ·contradiction
  ·contradiction
theorem step_right {syms : List Sym} {i : Ins} (h : insStep syms i = 0) : insRight i = 0 ∧ placeC syms i.a = 0 ∧ placeC syms i.b = 0 := by
 unfold insStep at h
 split at h
 ·split at h
  ·exact ⟨by assumption, by assumption, h⟩
  ·contradiction
 ·contradiction
theorem labsC_ok : ∀ (l seen : List ByteArray), (labsC seen l).1 = 0 → (labsC seen l).2 = seen ++ l
 | [], seen, _ => by simp [labsC]
 | x :: l, seen, h => by
  simp only [labsC] at h ⊢
  split at h
  ·rename_i h1
   rw [if_pos h1]
   split at h
   ·cases h
   ·rename_i h2
    rw [if_neg h2, labsC_ok l _ h]
    simp
  ·cases h
theorem insC_seen (syms : List Sym) : ∀ (t : List Ins) (seen : List ByteArray), (insC syms seen t).1 = 0 → (insC syms seen t).2 = seen ++ allLabs t
 | [], seen, _ => by simp [insC, allLabs]
 | x :: t, seen, h => by
  simp only [insC] at h ⊢
  split at h
  ·rename_i h1
   rw [if_pos h1]
   split at h
   ·rename_i h2
    rw [if_pos h2, insC_seen syms t _ h, labsC_ok _ _ h1]
    simp [allLabs]
   ·contradiction
  ·contradiction
theorem last_get (t : List Ins) (h : t ≠ []) : ∃ i, t[t.length - 1]? = some i ∧ t.getLast? = some i := by
 have hl : 0 < t.length := List.length_pos_iff.2 h
 refine ⟨t[t.length - 1], List.getElem?_eq_getElem (by omega), ?_⟩
 rw [List.getLast?_eq_getElem?, List.getElem?_eq_getElem (by omega)]
section
attribute [local irreducible] TwS TwR thenT inBlockT retT
variable {G : World → Prop}
theorem place_spec (p : Prg) (o : Opd) : Pure prog G 132 [.agg (cPrg p), .agg (cOpd o)] (tI (placeC p.syms o)) := by
 refine Pure.at mixedOk F132 rfl fun C hP hG hp => goF ?_; simp only [F132, targEnv, Nat.zero_add, Nat.reduceAdd]
 by_cases hk : o.kind = 3 ∨ o.kind = 4
 ·have hm : memQ o = true := dT hk
  by_cases hs : o.sym < 0
  ·rw [show placeC p.syms o = 7 by rw [placeC, if_pos hm, if_pos hs]]
   repeat' (first | refine goR rfl ?_ | refine goS rfl ?_ | refine tret1 rfl ?_ | refine tretN rfl ?_ | refine gY rfl rfl ?_ | refine gN rfl rfl ?_ | refine qT rfl rfl ?_ | refine qF rfl rfl ?_ | ((first | refine gS rfl (fun h => ?_) (fun h => ?_) | refine ts_cond rfl (fun h => ?_) (fun h => ?_)) <;> (try simp only [bs0, beq_iff_eq] at h) <;> try (exfalso; omega; done)) | fail)
   all_goals exact .fr rfl
  ·cases hg : p.syms[o.sym.toNat]? with
   | none =>
    rw [show placeC p.syms o = 7 by rw [placeC, if_pos hm, if_neg hs, hg]]
    have := List.getElem?_eq_none_iff.1 hg
    repeat' (first | refine goR rfl ?_ | refine goS rfl ?_ | refine tret1 rfl ?_ | refine tretN rfl ?_ | refine gY rfl rfl ?_ | refine gN rfl rfl ?_ | refine qT rfl rfl ?_ | refine qF rfl rfl ?_ | ((first | refine gS rfl (fun h => ?_) (fun h => ?_) | refine ts_cond rfl (fun h => ?_) (fun h => ?_)) <;> (try simp only [bs0, beq_iff_eq] at h) <;> try (exfalso; first | omega | (rw [lM] at h; omega); done)) | fail)
    all_goals exact .fr rfl
   | some s =>
    have hlt := (List.getElem?_eq_some_iff.1 hg).1
    rw [show placeC p.syms o = if o.kind = 3 ∧ s.size ≤ o.n then 8 else 0 by rw [placeC, if_pos hm, if_neg hs, hg]]
    repeat' (first | refine goR rfl ?_ | refine goS rfl ?_ | refine tret1 rfl ?_ | refine tretN rfl ?_ | refine gY rfl rfl ?_ | refine gN rfl rfl ?_ | refine qT rfl rfl ?_ | refine qF rfl rfl ?_ | refine lT (tl_ixm rfl rfl (by omega) hg) ?_ | ((first | refine gS rfl (fun h => ?_) (fun h => ?_) | refine ts_cond rfl (fun h => ?_) (fun h => ?_)) <;> (try simp only [bs0, beq_iff_eq] at h) <;> try (exfalso; first | omega | (rw [lM] at h; omega); done)) | fail)
    all_goals refine .vi ?_
    all_goals first | rw [if_pos (by omega)] | rw [if_neg (by omega)]
 ·rw [show placeC p.syms o = 0 by rw [placeC, if_neg (by rw [memQ, decide_eq_true_eq]; exact hk)]]
  repeat' (first | refine goR rfl ?_ | refine goS rfl ?_ | refine tret1 rfl ?_ | refine tretN rfl ?_ | refine gY rfl rfl ?_ | refine gN rfl rfl ?_ | refine qT rfl rfl ?_ | refine qF rfl rfl ?_ | ((first | refine gS rfl (fun h => ?_) (fun h => ?_) | refine ts_cond rfl (fun h => ?_) (fun h => ?_)) <;> (try simp only [bs0, beq_iff_eq] at h) <;> try (exfalso; omega; done)) | fail)
  all_goals exact .fr rfl
end
section
attribute [local irreducible] TwS TwR thenT inBlockT retT rightB insRight placeC fitsB jumpB
theorem thread_spec (p : Prg) (l : List Ins) (hl : okT l) : Pure prog Tabs 109 [.agg (cPrg p), .agg (cTh l)] (tI (threadC p.syms l)) := by
 have hll := hl.1.1
 have hcn := countN_le l
 refine Pure.at mixedOk F109 rfl fun C hP hG hp => goF ?_; simp only [F109, targEnv, Nat.zero_add, Nat.reduceAdd]
 repeat' (first | refine goR rfl ?_ | refine goS rfl ?_ | refine tret1 rfl ?_ | refine tretN rfl ?_ | refine gY rfl rfl ?_ | refine gN rfl rfl ?_ | refine qT rfl rfl ?_ | refine qF rfl rfl ?_ | refine cA rfl (by rw [hP, hG]; exact count_spec l hll) rfl ?_ | ((first | refine gS rfl (fun h => ?_) (fun h => ?_) | refine ts_cond rfl (fun h => ?_) (fun h => ?_)) <;> try simp only [bs0, beq_iff_eq] at h) | fail)
 ·rw [show threadC p.syms l = 10 by rw [threadC, if_pos (by omega)]]
  exact .fr rfl
 have h10 : ¬ 4096 < countN l := by omega
 refine loopS (fun m env σ => ∃ a b seen, l = a ++ b ∧ m = b.length ∧ insC p.syms [] l = insC p.syms seen b ∧ env = [(2, .p 0 0), (3, .p 1 0), (5, .m 2), (21, .lst 13 (l.map cIns)), (22, tI l.length), (23, tI a.length)] ∧
  σ = ⟨[(0, .cells (cPrg p) 28), (1, .cells (cTh l) 69), (2, .map (mapB seen))], 3⟩) l.length ?_ ⟨[], l, [], rfl, rfl, rfl, rfl, rfl⟩ ?_
 ·(refine w_ren [(0, 0), (1, 1), (2, 2)] rfl (by rw [hp]; intro j hj; cases hj) rfl ?_ ?_ <;> repeat' (first | exact .nil | exact .f _ rfl | exact .s _ _ _ _ _ _ rfl | exact .p _ _ _ rfl | exact .rows _ _ _ | exact .iter _ _ | exact RenL.nil _ | refine RenL.cons ?_ ?_ | refine .cells _ _ _ ?_ | refine .cons _ _ _ _ rfl ?_ ?_ | refine .cons _ _ _ _ _ rfl rfl ?_ ?_ | refine .rowsE ?_ | refine .sE rfl ?_ | exact .m _ _ rfl | refine .fE rfl ?_ | exact RenO.mB _ | exact RenO.mB [] | fail))
  rw [lM]
 rintro m env σ ⟨a, b, seen, e, rfl, hI, rfl, rfl⟩
 have hla : l.length = a.length + b.length := by rw [e, lA]
 cases b with
 | nil =>
  rw [List.length_nil] at hla
  rw [insC] at hI
  rw [List.append_nil] at e
  have hok : (insC p.syms [] l).1 = 0 := by rw [hI]
  have hseen : (insC p.syms [] l).2 = seen := by rw [hI]
  have hright := fun i hi => (step_right (insC_ok p.syms l [] hok i hi)).1
  have ht : threadC p.syms l = if lastB l = true then (if wayB seen l = true then 0 else 7) else 9 := by
   rw [threadC, if_neg h10, if_pos hok, hseen]
  by_cases hn : l = []
  ·subst hn
   rw [show threadC p.syms [] = 9 from ht]
   repeat' (first | refine goR rfl ?_ | refine goS rfl ?_ | refine tret1 rfl ?_ | refine tretN rfl ?_ | refine gY rfl rfl ?_ | refine gN rfl rfl ?_ | refine qT rfl rfl ?_ | refine qF rfl rfl ?_ | refine qF rfl (dF (by omega)) ?_ | ((first | refine gS rfl (fun h => ?_) (fun h => ?_) | refine ts_cond rfl (fun h => ?_) (fun h => ?_)) <;> (try simp only [bs0, beq_iff_eq] at h) <;> try (exfalso; omega; done)) | fail)
   all_goals first | exact .fr rfl | (exfalso; exact h rfl)
  obtain ⟨z, hz, hz2⟩ := last_get l hn
  have hl0 : 0 < l.length := List.length_pos_iff.2 hn
  have hlast : lastB l = (decide (z.op = 10) || decide (z.op = 14)) := by rw [lastB, hz2]
  repeat' (first | refine goR rfl ?_ | refine goS rfl ?_ | refine tret1 rfl ?_ | refine tretN rfl ?_ | refine gY rfl rfl ?_ | refine gN rfl rfl ?_ | refine qT rfl rfl ?_ | refine qF rfl rfl ?_ | refine qF rfl (dF (by omega)) ?_ | refine lT (tl_ixm (m := l.length - 1) rfl rfl (by rw [lM, w64 (by omega)]; omega) hz) ?_ | ((first | refine gS rfl (fun h => ?_) (fun h => ?_) | refine ts_cond rfl (fun h => ?_) (fun h => ?_)) <;> (try simp only [bs0, beq_iff_eq] at h) <;> try (exfalso; (rw [lM] at h; omega); done)) | fail)
  ·rw [ht, hlast, dF (by assumption), dF (by assumption)]
   exact .fr rfl
  all_goals
   have hl1 : lastB l = true := by rw [hlast]; first | (rw [dT h]; rfl) | (rw [dT h, Bool.or_true])
   rw [ht, if_pos hl1]
   refine loopS (fun m env σ => ∃ a b, l = a ++ b ∧ m = b.length ∧ wayB seen l = wayB seen b ∧ env = [(5, .m 2), (87, .lst 13 (l.map cIns)), (88, tI l.length), (89, tI a.length)] ∧ σ = ⟨[(2, .map (mapB seen))], 3⟩) l.length ?_ ⟨[], l, rfl, rfl, rfl, rfl, rfl⟩ ?_
   ·(refine w_ren [(2, 2)] rfl (by rw [hp]; intro j hj; cases hj) rfl ?_ ?_ <;> repeat' (first | exact .nil | exact .f _ rfl | exact .s _ _ _ _ _ _ rfl | exact .p _ _ _ rfl | exact .rows _ _ _ | exact .iter _ _ | exact RenL.nil _ | refine RenL.cons ?_ ?_ | refine .cells _ _ _ ?_ | refine .cons _ _ _ _ rfl ?_ ?_ | refine .cons _ _ _ _ _ rfl rfl ?_ ?_ | refine .rowsE ?_ | refine .sE rfl ?_ | exact .m _ _ rfl | refine .fE rfl ?_ | exact RenO.mB _ | exact RenO.mB [] | fail))
    rw [lM]
   rintro m env σ ⟨a2, b2, e3, rfl, hW, rfl, rfl⟩
   have hla2 : l.length = a2.length + b2.length := by rw [e3, lA]
   cases b2 with
   | nil =>
    rw [List.length_nil] at hla2
    repeat' (first | refine goR rfl ?_ | refine goS rfl ?_ | refine tret1 rfl ?_ | refine tretN rfl ?_ | refine gY rfl rfl ?_ | refine gN rfl rfl ?_ | refine qT rfl rfl ?_ | refine qF rfl rfl ?_ | refine qF rfl (dF (by omega)) ?_ | fail)
    rw [hW]
    exact .fr rfl
   | cons x b2 =>
    have hx : l[a2.length]? = some x := by rw [e3]; exact ix
    have hm : x ∈ l := by rw [e3]; simp
    simp only [List.length_cons] at hla2
    have hxs := hl.2 x hm
    have hw1 : wayB seen (x :: b2) = ((!jumpB x || hasB x.to seen) && wayB seen b2) := rfl
    have hr := hright x hm
    have hj : (decide (insRight x = 0) && jumpB x) = jumpB x := by rw [dT hr, Bool.true_and]
    repeat' (first | refine goR rfl ?_ | refine goS rfl ?_ | refine tret1 rfl ?_ | refine tretN rfl ?_ | refine gY rfl rfl ?_ | refine gN rfl rfl ?_ | refine qT rfl rfl ?_ | refine qF rfl rfl ?_ | refine qT rfl (dT (by omega)) ?_ | refine lT (tl_ixm rfl rfl rfl hx) ?_ | refine cA rfl (by rw [hP, hG]; exact leads_spec x (by omega)) rfl ?_ | refine lT (tl_mapB rfl rfl rfl) ?_ | ((first | refine gS rfl (fun h => ?_) (fun h => ?_) | refine ts_cond rfl (fun h => ?_) (fun h => ?_)) <;> try simp only [bs0, beq_iff_eq] at h) | fail)
    all_goals rw [hj] at *
    all_goals first
     | (rw [hW, hw1]; simp_all; exact .fr rfl)
     | (refine again (m' := b2.length) (Nat.lt_succ_self _) ?_ ⟨a2 ++ [x], b2, by rw [e3]; simp, rfl, by rw [hW, hw1]; simp_all, rfl, rfl⟩
        (refine w_ren [(2, 2)] rfl (by rw [hp]; intro j hj; cases hj) rfl ?_ ?_ <;> repeat' (first | exact .nil | exact .f _ rfl | exact .s _ _ _ _ _ _ rfl | exact .p _ _ _ rfl | exact .rows _ _ _ | exact .iter _ _ | exact RenL.nil _ | refine RenL.cons ?_ ?_ | refine .cells _ _ _ ?_ | refine .cons _ _ _ _ rfl ?_ ?_ | refine .cons _ _ _ _ _ rfl rfl ?_ ?_ | refine .rowsE ?_ | refine .sE rfl ?_ | exact .m _ _ rfl | refine .fE rfl ?_ | exact RenO.mB _ | exact RenO.mB [] | fail))
        rw [w64 (by omega), lA, List.length_singleton]; rfl)
     | skip
 | cons x b =>
  have hx : l[a.length]? = some x := by rw [e]; exact ix
  simp only [List.length_cons] at hla
  have hxs := hl.2 x (by rw [e]; simp)
  rw [insC] at hI
  repeat' (first | refine goR rfl ?_ | refine goS rfl ?_ | refine tret1 rfl ?_ | refine tretN rfl ?_ | refine gY rfl rfl ?_ | refine gN rfl rfl ?_ | refine qT rfl rfl ?_ | refine qF rfl rfl ?_ | refine qT rfl (dT (by omega)) ?_ | refine lT (tl_ixm rfl rfl rfl hx) ?_ | ((first | refine gS rfl (fun h => ?_) (fun h => ?_) | refine ts_cond rfl (fun h => ?_) (fun h => ?_)) <;> try simp only [bs0, beq_iff_eq] at h) | fail)
  refine loopS (fun m env σ => ∃ c d, x.labels = c ++ d ∧ m = d.length ∧ labsC seen x.labels = labsC (seen ++ c) d ∧ env = [(2, .p 0 0), (3, .p 1 0), (5, .m 2), (7, .p 3 0), (21, .lst 13 (l.map cIns)), (22, tI l.length), (23, tI a.length),
   (28, .lst 1 (x.labels.map fun s => [tS s])), (29, tI x.labels.length), (30, tI c.length)] ∧
   σ = ⟨[(0, .cells (cPrg p) 28), (1, .cells (cTh l) 69), (2, .map (mapB (seen ++ c))), (3, .cells (cIns x) 74)], 4⟩) x.labels.length ?_ ⟨[], x.labels, rfl, rfl, by rw [List.append_nil], rfl, rfl⟩ ?_
  ·(refine w_ren [(0, 0), (1, 1), (2, 2), (3, 3)] rfl (by rw [hp]; intro j hj; cases hj) rfl ?_ ?_ <;> repeat' (first | exact .nil | exact .f _ rfl | exact .s _ _ _ _ _ _ rfl | exact .p _ _ _ rfl | exact .rows _ _ _ | exact .iter _ _ | exact RenL.nil _ | refine RenL.cons ?_ ?_ | refine .cells _ _ _ ?_ | refine .cons _ _ _ _ rfl ?_ ?_ | refine .cons _ _ _ _ _ rfl rfl ?_ ?_ | refine .rowsE ?_ | refine .sE rfl ?_ | exact .m _ _ rfl | refine .fE rfl ?_ | exact RenO.mB _ | exact RenO.mB [] | fail))
   ·rw [lM]
   ·rw [List.append_nil]; exact RenO.mB _
  rintro m env σ ⟨c, d, e2, rfl, hL, rfl, rfl⟩
  have hlc : x.labels.length = c.length + d.length := by rw [e2, lA]
  cases d with
  | nil =>
   rw [List.length_nil] at hlc
   rw [labsC] at hL
   rw [hL, if_pos rfl] at hI
   have hT : insStep p.syms x ≠ 0 → threadC p.syms l = insStep p.syms x := by
    intro h
    rw [if_neg h] at hI
    rw [threadC, if_neg h10, hI, if_neg h]
   repeat' (first | refine goR rfl ?_ | refine goS rfl ?_ | refine tret1 rfl ?_ | refine tretN rfl ?_ | refine gY rfl rfl ?_ | refine gN rfl rfl ?_ | refine qT rfl rfl ?_ | refine qF rfl rfl ?_ | refine qF rfl (dF (by omega)) ?_ | refine cA rfl (by rw [hP, hG]; exact insRight_spec x (by omega)) rfl ?_ | refine cA rfl (by rw [hP, hG]; exact place_spec p x.a) rfl ?_ | refine cA rfl (by rw [hP, hG]; exact place_spec p x.b) rfl ?_ | ((first | refine gS rfl (fun h => ?_) (fun h => ?_) | refine ts_cond rfl (fun h => ?_) (fun h => ?_)) <;> (try simp only [bs0, beq_iff_eq] at h) <;> try (exfalso; omega; done)) | fail)
   ·have hs : insStep p.syms x = placeC p.syms x.b := by rw [insStep, if_pos (by assumption), if_pos (by assumption)]
    rw [hT (by rw [hs]; exact h), hs]
    exact .fr rfl
   ·have hs : insStep p.syms x = 0 := by rw [insStep, if_pos (by assumption), if_pos (by assumption)]; exact h
    rw [if_pos hs] at hI
    refine again (m' := b.length) (Nat.lt_succ_self _) ?_ ⟨a ++ [x], b, seen ++ c, by rw [e]; simp, rfl, hI, rfl, rfl⟩
    (refine w_ren [(0, 0), (1, 1), (2, 2)] rfl (by rw [hp]; intro j hj; cases hj) rfl ?_ ?_ <;> repeat' (first | exact .nil | exact .f _ rfl | exact .s _ _ _ _ _ _ rfl | exact .p _ _ _ rfl | exact .rows _ _ _ | exact .iter _ _ | exact RenL.nil _ | refine RenL.cons ?_ ?_ | refine .cells _ _ _ ?_ | refine .cons _ _ _ _ rfl ?_ ?_ | refine .cons _ _ _ _ _ rfl rfl ?_ ?_ | refine .rowsE ?_ | refine .sE rfl ?_ | exact .m _ _ rfl | refine .fE rfl ?_ | exact RenO.mB _ | exact RenO.mB [] | fail))
    rw [w64 (by omega), lA, List.length_singleton]; rfl
   ·have hs : insStep p.syms x = placeC p.syms x.a := by rw [insStep, if_pos (by assumption), if_neg (by assumption)]
    rw [hT (by rw [hs]; assumption), hs]
    exact .fr rfl
   ·have hs : insStep p.syms x = insRight x := by rw [insStep, if_neg (by assumption)]
    rw [hT (by rw [hs]; assumption), hs]
    exact .fr rfl
  | cons y d =>
   have hy : x.labels[c.length]? = some y := by rw [e2]; exact ix
   simp only [List.length_cons] at hlc
   have hys := hxs.2.2 y (by rw [e2]; simp)
   rw [labsC] at hL
   repeat' (first | refine goR rfl ?_ | refine goS rfl ?_ | refine tret1 rfl ?_ | refine tretN rfl ?_ | refine gY rfl rfl ?_ | refine gN rfl rfl ?_ | refine qT rfl rfl ?_ | refine qF rfl rfl ?_ | refine qT rfl (dT (by omega)) ?_ | refine lT (tl_ixm rfl rfl rfl hy) ?_ | refine cA rfl (by rw [hP, hG]; exact right_spec y (by omega)) rfl ?_ | refine lT (tl_mapB rfl rfl rfl) ?_ | refine tr_mapaddB rfl rfl rfl rfl h rfl ?_ | ((first | refine gS rfl (fun h => ?_) (fun h => ?_) | refine ts_cond rfl (fun h => ?_) (fun h => ?_)) <;> try simp only [bs0, beq_iff_eq] at h) | fail)
   ·rw [if_neg (by rw [h]; decide)] at hL
    rw [hL, if_neg (show ¬ (3 : Int) = 0 by decide)] at hI
    rw [threadC, if_neg h10, hI]
    exact .fr rfl
   ·rw [if_pos (by assumption), if_pos h] at hL
    rw [hL, if_neg (show ¬ (6 : Int) = 0 by decide)] at hI
    rw [threadC, if_neg h10, hI]
    exact .fr rfl
   ·rw [if_pos (by assumption), if_neg (by rw [h]; decide), List.append_assoc] at hL
    refine again (m' := d.length) (Nat.lt_succ_self _) ?_ ⟨c ++ [y], d, by rw [e2]; simp, rfl, hL, rfl, rfl⟩
    (refine w_ren [(0, 0), (1, 1), (2, 2), (3, 3)] rfl (by rw [hp]; intro j hj; cases hj) rfl ?_ ?_ <;> repeat' (first | exact .nil | exact .f _ rfl | exact .s _ _ _ _ _ _ rfl | exact .p _ _ _ rfl | exact .rows _ _ _ | exact .iter _ _ | exact RenL.nil _ | refine RenL.cons ?_ ?_ | refine .cells _ _ _ ?_ | refine .cons _ _ _ _ rfl ?_ ?_ | refine .cons _ _ _ _ _ rfl rfl ?_ ?_ | refine .rowsE ?_ | refine .sE rfl ?_ | exact .m _ _ rfl | refine .fE rfl ?_ | exact RenO.mB _ | exact RenO.mB [] | fail))
    ·rw [w64 (by omega), lA, List.length_singleton]; rfl
    ·rw [List.append_assoc]; exact RenO.mB _
end
end Go.Proofs.YtnphhelbianjpaaGreatDoor
namespace Go.Proofs.YtnphhelbianjpaaGreatDoor
set_option maxRecDepth 20000
open Go Go.Proofs.YtnphhelbianjpaaGreatDoor.V Go.Proofs

def symBad (s : Sym) : Bool := decide (s.size < 1 ∨ 64 < s.size ∨ s.size < (s.init.length : Int))
def symsC : List ByteArray → List Sym → Int
 | _, [] => 0
 | seen, s :: ss => if rightB s.name = true then (if hasB s.name seen = true then 6 else if symBad s = true then 5 else symsC (seen ++ [s.name]) ss) else 3
def thsC (syms : List Sym) : List (List Ins) → Int
 | [] => 0
 | t :: ts => if threadC syms t = 0 then thsC syms ts else threadC syms t
def checkC (p : Prg) : Int := if 64 < p.syms.length ∨ 64 < p.threads.length then 10 else if symsC [] p.syms = 0 then thsC p.syms p.threads else symsC [] p.syms
section
attribute [local irreducible] TwS TwR thenT inBlockT retT rightB threadC
theorem check_spec (p : Prg) (hp : okP p) : Pure prog Tabs 61 [.agg (cPrg p)] (tI (checkC p)) := by
 obtain ⟨h1, h2, h3, h4⟩ := hp
 refine Pure.at mixedOk F61 rfl fun C hP hG hp => goF ?_; simp only [F61, targEnv, Nat.zero_add, Nat.reduceAdd]
 have e1 : (p.syms.map cSym).length = p.syms.length := lM ..
 have e2 : (p.threads.map cTh).length = p.threads.length := lM ..
 by_cases hb : 64 < p.syms.length ∨ 64 < p.threads.length
 ·rw [show checkC p = 10 by rw [checkC, if_pos hb]]
  repeat' (first | refine goR rfl ?_ | refine goS rfl ?_ | refine tret1 rfl ?_ | refine tretN rfl ?_ | refine gY rfl rfl ?_ | refine gN rfl rfl ?_ | refine qT rfl rfl ?_ | refine qF rfl rfl ?_ | ((first | refine gS rfl (fun h => ?_) (fun h => ?_) | refine ts_cond rfl (fun h => ?_) (fun h => ?_)) <;> (try simp only [bs0, beq_iff_eq] at h) <;> try (exfalso; omega; done)) | fail)
  all_goals exact .fr rfl
 have hc : checkC p = if symsC [] p.syms = 0 then thsC p.syms p.threads else symsC [] p.syms := by rw [checkC, if_neg hb]
 repeat' (first | refine goR rfl ?_ | refine goS rfl ?_ | refine tret1 rfl ?_ | refine tretN rfl ?_ | refine gY rfl rfl ?_ | refine gN rfl rfl ?_ | refine qT rfl rfl ?_ | refine qF rfl rfl ?_ | ((first | refine gS rfl (fun h => ?_) (fun h => ?_) | refine ts_cond rfl (fun h => ?_) (fun h => ?_)) <;> (try simp only [bs0, beq_iff_eq] at h) <;> try (exfalso; omega; done)) | fail)
 refine loopS (fun m env σ => ∃ a b seen, p.syms = a ++ b ∧ m = b.length ∧ symsC [] p.syms = symsC seen b ∧ env = [(1, .p 0 0), (3, .m 1), (21, .lst 3 (p.syms.map cSym)), (22, tI p.syms.length), (23, tI a.length)] ∧
  σ = ⟨[(0, .cells (cPrg p) 28), (1, .map (mapB seen))], 2⟩) p.syms.length ?_ ⟨[], p.syms, [], rfl, rfl, rfl, rfl, rfl⟩ ?_
 ·(refine w_ren [(0, 0), (1, 1)] rfl (by rw [hp]; intro j hj; cases hj) rfl ?_ ?_ <;> repeat' (first | exact .nil | exact .f _ rfl | exact .s _ _ _ _ _ _ rfl | exact .p _ _ _ rfl | exact .rows _ _ _ | exact .iter _ _ | exact RenL.nil _ | refine RenL.cons ?_ ?_ | refine .cells _ _ _ ?_ | refine .cons _ _ _ _ rfl ?_ ?_ | refine .cons _ _ _ _ _ rfl rfl ?_ ?_ | refine .rowsE ?_ | refine .sE rfl ?_ | exact .m _ _ rfl | refine .fE rfl ?_ | exact RenO.mB _ | exact RenO.mB [] | fail))
  rw [lM]
 rintro m env σ ⟨a, b, seen, e, rfl, hI, rfl, rfl⟩
 have hla : p.syms.length = a.length + b.length := by rw [e, lA]
 cases b with
 | nil =>
  rw [List.length_nil] at hla
  rw [symsC] at hI
  rw [hI, if_pos rfl] at hc
  repeat' (first | refine goR rfl ?_ | refine goS rfl ?_ | refine tret1 rfl ?_ | refine tretN rfl ?_ | refine gY rfl rfl ?_ | refine gN rfl rfl ?_ | refine qT rfl rfl ?_ | refine qF rfl rfl ?_ | refine qF rfl (dF (by omega)) ?_ | fail)
  refine loopS (fun m env σ => ∃ a b, p.threads = a ++ b ∧ m = b.length ∧ thsC p.syms p.threads = thsC p.syms b ∧ env = [(1, .p 0 0), (59, .lst 1 (p.threads.map cTh)), (60, tI p.threads.length), (61, tI a.length)] ∧
   σ = ⟨[(0, .cells (cPrg p) 28)], 2⟩) p.threads.length ?_ ⟨[], p.threads, rfl, rfl, rfl, rfl, rfl⟩ ?_
  ·(refine w_ren [(0, 0)] rfl (by rw [hp]; intro j hj; cases hj) rfl ?_ ?_ <;> repeat' (first | exact .nil | exact .f _ rfl | exact .s _ _ _ _ _ _ rfl | exact .p _ _ _ rfl | exact .rows _ _ _ | exact .iter _ _ | exact RenL.nil _ | refine RenL.cons ?_ ?_ | refine .cells _ _ _ ?_ | refine .cons _ _ _ _ rfl ?_ ?_ | refine .cons _ _ _ _ _ rfl rfl ?_ ?_ | refine .rowsE ?_ | refine .sE rfl ?_ | exact .m _ _ rfl | refine .fE rfl ?_ | exact RenO.mB _ | exact RenO.mB [] | fail))
   rw [lM]
  rintro m env σ ⟨a, b, e3, rfl, hT, rfl, rfl⟩
  have hla2 : p.threads.length = a.length + b.length := by rw [e3, lA]
  cases b with
  | nil =>
   rw [List.length_nil] at hla2
   repeat' (first | refine goR rfl ?_ | refine goS rfl ?_ | refine tret1 rfl ?_ | refine tretN rfl ?_ | refine gY rfl rfl ?_ | refine gN rfl rfl ?_ | refine qT rfl rfl ?_ | refine qF rfl rfl ?_ | refine qF rfl (dF (by omega)) ?_ | fail)
   rw [hc, hT]
   exact .fr rfl
  | cons x b =>
   have hx : p.threads[a.length]? = some x := by rw [e3]; exact ix
   simp only [List.length_cons] at hla2
   rw [thsC] at hT
   repeat' (first | refine goR rfl ?_ | refine goS rfl ?_ | refine tret1 rfl ?_ | refine tretN rfl ?_ | refine gY rfl rfl ?_ | refine gN rfl rfl ?_ | refine qT rfl rfl ?_ | refine qF rfl rfl ?_ | refine qT rfl (dT (by omega)) ?_ | refine lT (tl_ixm rfl rfl rfl hx) ?_ | refine cA rfl (by rw [hP, hG]; exact thread_spec p x (h4 x (by rw [e3]; simp))) rfl ?_ | ((first | refine gS rfl (fun h => ?_) (fun h => ?_) | refine ts_cond rfl (fun h => ?_) (fun h => ?_)) <;> try simp only [bs0, beq_iff_eq] at h) | fail)
   ·rw [hc, hT, if_neg h]
    exact .fr rfl
   ·rw [if_pos h] at hT
    refine again (m' := b.length) (Nat.lt_succ_self _) ?_ ⟨a ++ [x], b, by rw [e3]; simp, rfl, hT, rfl, rfl⟩
    (refine w_ren [(0, 0)] rfl (by rw [hp]; intro j hj; cases hj) rfl ?_ ?_ <;> repeat' (first | exact .nil | exact .f _ rfl | exact .s _ _ _ _ _ _ rfl | exact .p _ _ _ rfl | exact .rows _ _ _ | exact .iter _ _ | exact RenL.nil _ | refine RenL.cons ?_ ?_ | refine .cells _ _ _ ?_ | refine .cons _ _ _ _ rfl ?_ ?_ | refine .cons _ _ _ _ _ rfl rfl ?_ ?_ | refine .rowsE ?_ | refine .sE rfl ?_ | exact .m _ _ rfl | refine .fE rfl ?_ | exact RenO.mB _ | exact RenO.mB [] | fail))
    rw [w64 (by omega), lA, List.length_singleton]; rfl
 | cons x b =>
  have hx : p.syms[a.length]? = some x := by rw [e]; exact ix
  simp only [List.length_cons] at hla
  have hxs := h2 x (by rw [e]; simp)
  rw [symsC] at hI
  have e3 : (x.init.map fun n => [tI n]).length = x.init.length := lM ..
  repeat' (first | refine goR rfl ?_ | refine goS rfl ?_ | refine tret1 rfl ?_ | refine tretN rfl ?_ | refine gY rfl rfl ?_ | refine gN rfl rfl ?_ | refine qT rfl rfl ?_ | refine qF rfl rfl ?_ | refine qT rfl (dT (by omega)) ?_ | refine lT (tl_ixm rfl rfl rfl hx) ?_ | refine cA rfl (by rw [hP, hG]; exact right_spec x.name (by omega)) rfl ?_ | refine lT (tl_mapB rfl rfl rfl) ?_ | refine tr_mapaddB rfl rfl rfl rfl (by assumption) rfl ?_ | ((first | refine gS rfl (fun h => ?_) (fun h => ?_) | refine ts_cond rfl (fun h => ?_) (fun h => ?_)) <;> try simp only [bs0, beq_iff_eq] at h) | fail)
  ·rw [if_neg (by rw [h]; decide)] at hI
   rw [hc, hI, if_neg (by decide)]
   exact .fr rfl
  ·rw [if_pos (by assumption), if_pos (by assumption)] at hI
   rw [hc, hI, if_neg (by decide)]
   exact .fr rfl
  rotate_right
  ·have hs : symBad x = false := dF (by omega)
   rw [if_pos (by assumption), if_neg (by rw [‹hasB x.name seen = false›]; decide), if_neg (by rw [hs]; decide)] at hI
   refine again (m' := b.length) (Nat.lt_succ_self _) ?_ ⟨a ++ [x], b, seen ++ [x.name], by rw [e]; simp, rfl, hI, rfl, rfl⟩
   (refine w_ren [(0, 0), (1, 1)] rfl (by rw [hp]; intro j hj; cases hj) rfl ?_ ?_ <;> repeat' (first | exact .nil | exact .f _ rfl | exact .s _ _ _ _ _ _ rfl | exact .p _ _ _ rfl | exact .rows _ _ _ | exact .iter _ _ | exact RenL.nil _ | refine RenL.cons ?_ ?_ | refine .cells _ _ _ ?_ | refine .cons _ _ _ _ rfl ?_ ?_ | refine .cons _ _ _ _ _ rfl rfl ?_ ?_ | refine .rowsE ?_ | refine .sE rfl ?_ | exact .m _ _ rfl | refine .fE rfl ?_ | exact RenO.mB _ | exact RenO.mB [] | fail))
   rw [w64 (by omega), lA, List.length_singleton]; rfl
  all_goals
   have hs : symBad x = true := dT (by omega)
   rw [if_pos (by assumption), if_neg (by rw [‹hasB x.name seen = false›]; decide), if_pos hs] at hI
   rw [hc, hI, if_neg (by decide)]
   exact .fr rfl
end
end Go.Proofs.YtnphhelbianjpaaGreatDoor
namespace Go.Proofs.YtnphhelbianjpaaGreatDoor
set_option maxRecDepth 20000
open Go Go.Proofs.YtnphhelbianjpaaGreatDoor.V Go.Proofs

theorem idx_has : ∀ (l : List ByteArray) (s : ByteArray), (idx l s).isSome = hasB s l
 | [], s => rfl
 | x :: l, s => by
  have ih := idx_has l s
  simp only [idx, hasB]
  by_cases h : x = s
  ·subst h; simp
  ·rw [if_neg h, dF (fun e => h e.symm), Bool.false_or, ← ih]
   cases idx l s <;> rfl
theorem findI_has (t : List Ins) (s : ByteArray) : (findI t s).isSome = hasB s (allLabs t) := by
 unfold findI
 induction t with
 | nil => rfl
 | cons x t ih =>
  rw [List.findIdx?_cons, idx_has]
  have e : allLabs (x :: t) = x.labels ++ allLabs t := rfl
  rw [e, hasB_app, ← ih]
  cases hasB s x.labels with
  | true => rfl
  | false => cases List.findIdx? (fun i => (idx i.labels s).isSome) t <;> rfl
theorem findI_lt (t : List Ins) (s : ByteArray) : decide (optI (findI t s) < 0) = !hasB s (allLabs t) := by
 rw [← findI_has]
 cases findI t s with
 | none => rfl
 | some k => exact dF (by simp only [optI]; omega)
section
attribute [local irreducible] TwS TwR thenT inBlockT retT
variable {G : World → Prop}
theorem operand_spec (p : Prg) (o : Opd) (ho : okOpd o = true ∨ memK o = false) : Pure prog G 99 [.agg (cPrg p), .agg (cOpd o)] (tI (placeC p.syms o)) := by
 refine Pure.at mixedOk F99 rfl fun C hP hG hp => goF ?_; simp only [F99, targEnv, Nat.zero_add, Nat.reduceAdd]
 cases hm : memK o with
 | false =>
  have hm2 : memQ o = false := hm
  have c := fun G => memory_spec2 (G := G) o
  simp only [hm] at c
  rw [show placeC p.syms o = 0 by rw [placeC, if_neg (by rw [hm2]; decide)]]
  repeat' (first | refine goR rfl ?_ | refine goS rfl ?_ | refine tret1 rfl ?_ | refine tretN rfl ?_ | refine gY rfl rfl ?_ | refine gN rfl rfl ?_ | refine qT rfl rfl ?_ | refine qF rfl rfl ?_ | refine cA rfl (by rw [hP]; exact c _) rfl ?_ | ((first | refine gS rfl (fun h => ?_) (fun h => ?_) | refine ts_cond rfl (fun h => ?_) (fun h => ?_)) <;> (try simp only [bs0, beq_iff_eq] at h) <;> try (exfalso; omega; done)) | fail)
  exact .fr rfl
 | true =>
  have hm2 : memQ o = true := hm
  have c := fun G => memory_spec2 (G := G) o
  simp only [hm] at c
  have hk : o.kind = 3 ∨ o.kind = 4 := by unfold memK at hm; exact of_decide_eq_true hm
  have hs : ¬ o.sym < 0 := by
   rcases ho with ho | ho
   ·unfold okOpd at ho; simp only [decide_eq_true_eq] at ho; omega
   ·rw [hm] at ho; cases ho
  cases hg : p.syms[o.sym.toNat]? with
  | none =>
   rw [show placeC p.syms o = 7 by rw [placeC, if_pos hm2, if_neg hs, hg]]
   have := List.getElem?_eq_none_iff.1 hg
   repeat' (first | refine goR rfl ?_ | refine goS rfl ?_ | refine tret1 rfl ?_ | refine tretN rfl ?_ | refine gY rfl rfl ?_ | refine gN rfl rfl ?_ | refine qT rfl rfl ?_ | refine qF rfl rfl ?_ | refine cA rfl (by rw [hP]; exact c _) rfl ?_ | ((first | refine gS rfl (fun h => ?_) (fun h => ?_) | refine ts_cond rfl (fun h => ?_) (fun h => ?_)) <;> (try simp only [bs0, beq_iff_eq] at h) <;> try (exfalso; first | omega | (rw [lM] at h; omega); done)) | fail)
   all_goals exact .fr rfl
  | some s =>
   have hlt := (List.getElem?_eq_some_iff.1 hg).1
   rw [show placeC p.syms o = if o.kind = 3 ∧ s.size ≤ o.n then 8 else 0 by rw [placeC, if_pos hm2, if_neg hs, hg]]
   repeat' (first | refine goR rfl ?_ | refine goS rfl ?_ | refine tret1 rfl ?_ | refine tretN rfl ?_ | refine gY rfl rfl ?_ | refine gN rfl rfl ?_ | refine qT rfl rfl ?_ | refine qF rfl rfl ?_ | refine cA rfl (by rw [hP]; exact c _) rfl ?_ | refine lT (tl_ixm rfl rfl (by omega) hg) ?_ | ((first | refine gS rfl (fun h => ?_) (fun h => ?_) | refine ts_cond rfl (fun h => ?_) (fun h => ?_)) <;> (try simp only [bs0, beq_iff_eq] at h) <;> try (exfalso; first | omega | (rw [lM] at h; omega); done)) | fail)
   all_goals refine .vi ?_
   all_goals first | rw [if_pos (by omega)] | rw [if_neg (by omega)]
end
theorem opd_ok {i : Ins} (h : insRight i = 0) : (okOpd i.a = true ∨ memK i.a = false) ∧ (okOpd i.b = true ∨ memK i.b = false) := by
 obtain ⟨h1, h2⟩ := memK_of h
 rw [mem_iff] at h1 h2
 constructor
 ·cases ho : okOpd i.a with
  | true => exact .inl rfl
  | false => rw [ho] at h1; exact .inr h1
 ·cases ho : okOpd i.b with
  | true => exact .inl rfl
  | false => rw [ho] at h2; exact .inr h2
section
attribute [local irreducible] TwS TwR thenT inBlockT retT rightB insRight placeC fitsB jumpB
theorem thread_spec2 (p : Prg) (l : List Ins) (hl : okT l) : Pure prog Tabs 56 [.agg (cPrg p), .agg (cTh l)] (tI (threadC p.syms l)) := by
 have hll := hl.1.1
 have hcn := countN_le l
 have hlm : (l.map cIns).length = l.length := lM ..
 refine Pure.at mixedOk F56 rfl fun C hP hG hp => goF ?_; simp only [F56, targEnv, Nat.zero_add, Nat.reduceAdd]
 repeat' (first | refine goR rfl ?_ | refine goS rfl ?_ | refine tret1 rfl ?_ | refine tretN rfl ?_ | refine gY rfl rfl ?_ | refine gN rfl rfl ?_ | refine qT rfl rfl ?_ | refine qF rfl rfl ?_ | refine cA rfl (by rw [hP, hG]; exact count_spec2 l hll) rfl ?_ | ((first | refine gS rfl (fun h => ?_) (fun h => ?_) | refine ts_cond rfl (fun h => ?_) (fun h => ?_)) <;> try simp only [bs0, beq_iff_eq] at h) | fail)
 ·rw [show threadC p.syms l = 10 by rw [threadC, if_pos (by omega)]]
  exact .fr rfl
 have h10 : ¬ 4096 < countN l := by omega
 refine loopS (fun m env σ => ∃ a b seen, l = a ++ b ∧ m = b.length ∧ insC p.syms [] l = insC p.syms seen b ∧ seen = allLabs a ∧ env = [(2, .p 0 0), (3, .p 1 0), (5, .s 2 1 0 seen.length true), (6, tI a.length)] ∧
  σ = ⟨[(0, .cells (cPrg p) 28), (1, .cells (cTh l) 69), (2, .rows 1 (rw1 seen) 9)], 3⟩) l.length ((w_virt (d := 5) 1 9 rfl).trans ?_) ⟨[], l, [], rfl, rfl, rfl, rfl, rfl, rfl⟩ ?_
 ·(refine w_ren [(0, 0), (1, 1), (2, 2)] rfl (by rw [hp]; intro j hj; cases hj) rfl ?_ ?_ <;> repeat' (first | exact .nil | exact .f _ rfl | exact .s _ _ _ _ _ _ rfl | exact .p _ _ _ rfl | exact .rows _ _ _ | exact .iter _ _ | exact RenL.nil _ | refine RenL.cons ?_ ?_ | refine .cells _ _ _ ?_ | refine .cons _ _ _ _ rfl ?_ ?_ | refine .cons _ _ _ _ _ rfl rfl ?_ ?_ | refine .rowsE ?_ | refine .sE rfl ?_ | exact .m _ _ rfl | refine .fE rfl ?_ | exact RenO.mB _ | exact RenO.mB [] | fail))
 rintro m env σ ⟨a, b, seen, e, rfl, hI, hsn, rfl, rfl⟩
 have hla : l.length = a.length + b.length := by rw [e, lA]
 cases b with
 | nil =>
  rw [List.length_nil] at hla
  rw [insC] at hI
  rw [List.append_nil] at e
  have hok : (insC p.syms [] l).1 = 0 := by rw [hI]
  have hseen : (insC p.syms [] l).2 = allLabs l := by rw [insC_seen _ _ _ hok]; rfl
  have ht : threadC p.syms l = if lastB l = true then (if wayB (allLabs l) l = true then 0 else 7) else 9 := by
   rw [threadC, if_neg h10, if_pos hok, hseen]
  by_cases hn : l = []
  ·subst hn
   rw [show threadC p.syms [] = 9 from ht]
   repeat' (first | refine goR rfl ?_ | refine goS rfl ?_ | refine tret1 rfl ?_ | refine tretN rfl ?_ | refine gY rfl rfl ?_ | refine gN rfl rfl ?_ | refine qT rfl rfl ?_ | refine qF rfl rfl ?_ | refine qF rfl (dF (by omega)) ?_ | ((first | refine gS rfl (fun h => ?_) (fun h => ?_) | refine ts_cond rfl (fun h => ?_) (fun h => ?_)) <;> (try simp only [bs0, beq_iff_eq] at h) <;> try (exfalso; omega; done)) | fail)
   all_goals first | exact .fr rfl | (exfalso; exact h rfl)
  obtain ⟨z, hz, hz2⟩ := last_get l hn
  have hl0 : 0 < l.length := List.length_pos_iff.2 hn
  have hlast : lastB l = (decide (z.op = 10) || decide (z.op = 14)) := by rw [lastB, hz2]
  repeat' (first | refine goR rfl ?_ | refine goS rfl ?_ | refine tret1 rfl ?_ | refine tretN rfl ?_ | refine gY rfl rfl ?_ | refine gN rfl rfl ?_ | refine qT rfl rfl ?_ | refine qF rfl rfl ?_ | refine qF rfl (dF (by omega)) ?_ | refine lT (tl_ixm (m := l.length - 1) rfl rfl (by rw [lM, w64 (by omega)]; omega) hz) ?_ | ((first | refine gS rfl (fun h => ?_) (fun h => ?_) | refine ts_cond rfl (fun h => ?_) (fun h => ?_)) <;> (try simp only [bs0, beq_iff_eq] at h) <;> try (exfalso; (rw [lM] at h; omega); done)) | fail)
  ·rw [ht, hlast, dF (by assumption), dF (by assumption)]
   exact .fr rfl
  all_goals
   have hl1 : lastB l = true := by rw [hlast]; first | (rw [dT h]; rfl) | (rw [dT h, Bool.or_true])
   rw [ht, if_pos hl1]
   refine loopS (fun m env σ => ∃ a b, l = a ++ b ∧ m = b.length ∧ wayB (allLabs l) l = wayB (allLabs l) b ∧ env = [(3, .p 1 0), (13, tI a.length)] ∧ σ = ⟨[(1, .cells (cTh l) 69)], 3⟩) l.length ?_ ⟨[], l, rfl, rfl, rfl, rfl, rfl⟩ ?_
   ·(refine w_ren [(1, 1)] rfl (by rw [hp]; intro j hj; cases hj) rfl ?_ ?_ <;> repeat' (first | exact .nil | exact .f _ rfl | exact .s _ _ _ _ _ _ rfl | exact .p _ _ _ rfl | exact .rows _ _ _ | exact .iter _ _ | exact RenL.nil _ | refine RenL.cons ?_ ?_ | refine .cells _ _ _ ?_ | refine .cons _ _ _ _ rfl ?_ ?_ | refine .cons _ _ _ _ _ rfl rfl ?_ ?_ | refine .rowsE ?_ | refine .sE rfl ?_ | exact .m _ _ rfl | refine .fE rfl ?_ | exact RenO.mB _ | exact RenO.mB [] | fail))
   rintro m env σ ⟨a2, b2, e3, rfl, hW, rfl, rfl⟩
   have hla2 : l.length = a2.length + b2.length := by rw [e3, lA]
   cases b2 with
   | nil =>
    rw [List.length_nil] at hla2
    repeat' (first | refine goR rfl ?_ | refine goS rfl ?_ | refine tret1 rfl ?_ | refine tretN rfl ?_ | refine gY rfl rfl ?_ | refine gN rfl rfl ?_ | refine qT rfl rfl ?_ | refine qF rfl rfl ?_ | refine qF rfl (dF (by omega)) ?_ | fail)
    rw [hW]
    exact .fr rfl
   | cons x b2 =>
    have hx : l[a2.length]? = some x := by rw [e3]; exact ix
    simp only [List.length_cons] at hla2
    have hw1 : wayB (allLabs l) (x :: b2) = ((!(decide (x.op = 10) || decide (x.op = 11)) || hasB x.to (allLabs l)) && wayB (allLabs l) b2) := by with_unfolding_all rfl
    have hf := findI_lt l x.to
    repeat' (first | refine goR rfl ?_ | refine goS rfl ?_ | refine tret1 rfl ?_ | refine tretN rfl ?_ | refine gY rfl rfl ?_ | refine gN rfl rfl ?_ | refine qT rfl rfl ?_ | refine qF rfl rfl ?_ | refine qT rfl (dT (by omega)) ?_ | refine lT (tl_ixm rfl rfl rfl hx) ?_ | refine cA rfl (by rw [hP, hG]; exact jumps_spec2 x.op) rfl ?_ | refine cA rfl (by rw [hP, hG]; exact findI_spec l x.to hll) rfl ?_ | (refine ts_cond rfl (fun h => ?_) (fun h => ?_)) | ((first | refine gS rfl (fun h => ?_) (fun h => ?_) | refine ts_cond rfl (fun h => ?_) (fun h => ?_)) <;> try simp only [bs0, beq_iff_eq] at h) | fail)
    all_goals try rw [hf] at h
    all_goals clear hf
    all_goals first
     | (have e1 : hasB x.to (allLabs l) = false := by simpa using h
        rw [hW, hw1, ‹(decide (x.op = 10) || decide (x.op = 11)) = true›, e1]; exact .fr rfl)
     | (refine again (m' := b2.length) (Nat.lt_succ_self _) ?_ ⟨a2 ++ [x], b2, by rw [e3]; simp, rfl, by rw [hW, hw1]; simp_all, rfl, rfl⟩
        (refine w_ren [(1, 1)] rfl (by rw [hp]; intro j hj; cases hj) rfl ?_ ?_ <;> repeat' (first | exact .nil | exact .f _ rfl | exact .s _ _ _ _ _ _ rfl | exact .p _ _ _ rfl | exact .rows _ _ _ | exact .iter _ _ | exact RenL.nil _ | refine RenL.cons ?_ ?_ | refine .cells _ _ _ ?_ | refine .cons _ _ _ _ rfl ?_ ?_ | refine .cons _ _ _ _ _ rfl rfl ?_ ?_ | refine .rowsE ?_ | refine .sE rfl ?_ | exact .m _ _ rfl | refine .fE rfl ?_ | exact RenO.mB _ | exact RenO.mB [] | fail))
        rw [w64 (by omega), lA, List.length_singleton]; rfl)
     | skip
 | cons x b =>
  have hx : l[a.length]? = some x := by rw [e]; exact ix
  simp only [List.length_cons] at hla
  have hxs := hl.2 x (by rw [e]; simp)
  have hxm : (x.labels.map fun s => [tS s]).length = x.labels.length := lM ..
  rw [insC] at hI
  repeat' (first | refine goR rfl ?_ | refine goS rfl ?_ | refine tret1 rfl ?_ | refine tretN rfl ?_ | refine gY rfl rfl ?_ | refine gN rfl rfl ?_ | refine qT rfl rfl ?_ | refine qF rfl rfl ?_ | refine qT rfl (dT (by omega)) ?_ | refine lT (tl_ixm rfl rfl rfl hx) ?_ | ((first | refine gS rfl (fun h => ?_) (fun h => ?_) | refine ts_cond rfl (fun h => ?_) (fun h => ?_)) <;> try simp only [bs0, beq_iff_eq] at h) | fail)
  refine loopS (fun m env σ => ∃ c d, x.labels = c ++ d ∧ m = d.length ∧ labsC seen x.labels = labsC (seen ++ c) d ∧ env = [(2, .p 0 0), (3, .p 1 0), (5, .s 2 1 0 (seen ++ c).length true), (6, tI a.length), (7, .p 3 0), (8, tI c.length)] ∧
   σ = ⟨[(0, .cells (cPrg p) 28), (1, .cells (cTh l) 69), (2, .rows 1 (rw1 (seen ++ c)) 9), (3, .cells (cIns x) 74)], 4⟩) x.labels.length ?_ ⟨[], x.labels, rfl, rfl, by rw [List.append_nil], rfl, rfl⟩ ?_
  ·(refine w_ren [(0, 0), (1, 1), (2, 2), (3, 3)] rfl (by rw [hp]; intro j hj; cases hj) rfl ?_ ?_ <;> repeat' (first | exact .nil | exact .f _ rfl | exact .s _ _ _ _ _ _ rfl | exact .p _ _ _ rfl | exact .rows _ _ _ | exact .iter _ _ | exact RenL.nil _ | refine RenL.cons ?_ ?_ | refine .cells _ _ _ ?_ | refine .cons _ _ _ _ rfl ?_ ?_ | refine .cons _ _ _ _ _ rfl rfl ?_ ?_ | refine .rowsE ?_ | refine .sE rfl ?_ | exact .m _ _ rfl | refine .fE rfl ?_ | exact RenO.mB _ | exact RenO.mB [] | fail))
   all_goals rw [List.append_nil]
  rintro m env σ ⟨c, d, e2, rfl, hL, rfl, rfl⟩
  have hlc : x.labels.length = c.length + d.length := by rw [e2, lA]
  cases d with
  | nil =>
   rw [List.length_nil] at hlc
   rw [labsC] at hL
   rw [hL, if_pos rfl] at hI
   have hT : insStep p.syms x ≠ 0 → threadC p.syms l = insStep p.syms x := by
    intro h
    rw [if_neg h] at hI
    rw [threadC, if_neg h10, hI, if_neg h]
   repeat' (first | refine goR rfl ?_ | refine goS rfl ?_ | refine tret1 rfl ?_ | refine tretN rfl ?_ | refine gY rfl rfl ?_ | refine gN rfl rfl ?_ | refine qT rfl rfl ?_ | refine qF rfl rfl ?_ | refine qF rfl (dF (by omega)) ?_ | refine cA rfl (by rw [hP, hG]; exact insRight_spec2 x (by omega)) rfl ?_ | refine cA rfl (by rw [hP, hG]; exact operand_spec p x.a (opd_ok (by assumption)).1) rfl ?_ | refine cA rfl (by rw [hP, hG]; exact operand_spec p x.b (opd_ok (by assumption)).2) rfl ?_ | ((first | refine gS rfl (fun h => ?_) (fun h => ?_) | refine ts_cond rfl (fun h => ?_) (fun h => ?_)) <;> (try simp only [bs0, beq_iff_eq] at h) <;> try (exfalso; omega; done)) | fail)
   ·have hs : insStep p.syms x = insRight x := by rw [insStep, if_neg (by assumption)]
    rw [hT (by rw [hs]; assumption), hs]
    exact .fr rfl
   ·have hs : insStep p.syms x = placeC p.syms x.a := by rw [insStep, if_pos (by assumption), if_neg (by assumption)]
    rw [hT (by rw [hs]; assumption), hs]
    exact .fr rfl
   ·have hs : insStep p.syms x = placeC p.syms x.b := by rw [insStep, if_pos (by assumption), if_pos (by assumption)]
    rw [hT (by rw [hs]; exact h), hs]
    exact .fr rfl
   ·have hs : insStep p.syms x = 0 := by rw [insStep, if_pos (by assumption), if_pos (by assumption)]; exact h
    rw [if_pos hs] at hI
    refine again (m' := b.length) (Nat.lt_succ_self _) ?_ ⟨a ++ [x], b, seen ++ c, by rw [e]; simp, rfl, hI, by rw [hsn, allLabs, allLabs, List.flatMap_append, List.flatMap_singleton, e2, List.append_nil], rfl, rfl⟩
    (refine w_ren [(0, 0), (1, 1), (2, 2)] rfl (by rw [hp]; intro j hj; cases hj) rfl ?_ ?_ <;> repeat' (first | exact .nil | exact .f _ rfl | exact .s _ _ _ _ _ _ rfl | exact .p _ _ _ rfl | exact .rows _ _ _ | exact .iter _ _ | exact RenL.nil _ | refine RenL.cons ?_ ?_ | refine .cells _ _ _ ?_ | refine .cons _ _ _ _ rfl ?_ ?_ | refine .cons _ _ _ _ _ rfl rfl ?_ ?_ | refine .rowsE ?_ | refine .sE rfl ?_ | exact .m _ _ rfl | refine .fE rfl ?_ | exact RenO.mB _ | exact RenO.mB [] | fail))
    rw [w64 (by omega), lA, List.length_singleton]; rfl
  | cons y d =>
   have hy : x.labels[c.length]? = some y := by rw [e2]; exact ix
   simp only [List.length_cons] at hlc
   have hys := hxs.2.2 y (by rw [e2]; simp)
   rw [labsC] at hL
   have hix := idxI_ge (seen ++ c) y
   rw [idx_has] at hix
   repeat' (first | refine goR rfl ?_ | refine goS rfl ?_ | refine tret1 rfl ?_ | refine tretN rfl ?_ | refine gY rfl rfl ?_ | refine gN rfl rfl ?_ | refine qT rfl rfl ?_ | refine qF rfl rfl ?_ | refine qT rfl (dT (by rw [lM]; omega)) ?_ | refine lT (tl_ixm rfl rfl rfl hy) ?_ | refine cA rfl (by rw [hP, hG]; exact right_spec2 y (by omega)) rfl ?_ | refine tr_callL rfl (.cons (.s 2 1 _ true (rw1 (seen ++ c)) 9 rfl (by rw [rw1, lM])) (.cons (.f _ rfl) .nil)) (by rw [hP, hG]; exact index_spec (seen ++ c) y) rfl ?_ | (refine ts_cond rfl (fun h => ?_) (fun h => ?_)) | ((first | refine gS rfl (fun h => ?_) (fun h => ?_) | refine ts_cond rfl (fun h => ?_) (fun h => ?_)) <;> try simp only [bs0, beq_iff_eq] at h) | fail)
   ·have h : rightB y = false := by simpa using h
    rw [if_neg (by rw [h]; decide)] at hL
    rw [hL, if_neg (show ¬ (3 : Int) = 0 by decide)] at hI
    rw [threadC, if_neg h10, hI]
    exact .fr rfl
   ·have h0 : rightB y = true := by simpa using ‹(!rightB y) = false›
    rw [hix] at h
    rw [if_pos h0, if_pos h] at hL
    rw [hL, if_neg (show ¬ (6 : Int) = 0 by decide)] at hI
    rw [threadC, if_neg h10, hI]
    exact .fr rfl
   ·have h0 : rightB y = true := by simpa using ‹(!rightB y) = false›
    rw [hix] at h
    rw [if_pos h0, if_neg (by rw [h]; decide), List.append_assoc] at hL
    have hq : (seen ++ c).length + 1 ≤ 1000000000 := by
     have := hl.1.2
     rw [e, allLabs, List.flatMap_append, List.flatMap_cons, e2, ← allLabs, ← allLabs, ← hsn] at this
     simp only [lA, List.length_cons] at this ⊢
     omega
    repeat' (first | refine goR rfl ?_ | refine goS rfl ?_ | refine tret1 rfl ?_ | refine tretN rfl ?_ | refine gY rfl rfl ?_ | refine gN rfl rfl ?_ | refine qT rfl rfl ?_ | refine qF rfl rfl ?_ | refine tr_append rfl rfl (by rw [rw1, lM]) (.inr (.inr ⟨_, _, _, _, rfl, rfl, rfl⟩)) (by simp only [List.length_cons, List.length_nil]; omega) rfl ?_ | fail)
    refine again (m' := d.length) (Nat.lt_succ_self _) ?_ ⟨c ++ [y], d, by rw [e2]; simp, rfl, hL, rfl, rfl⟩
    (refine w_ren [(0, 0), (1, 1), (2, 5), (3, 3)] rfl (by rw [hp]; intro j hj; cases hj) rfl ?_ ?_ <;> repeat' (first | exact .nil | exact .f _ rfl | exact .s _ _ _ _ _ _ rfl | exact .p _ _ _ rfl | exact .rows _ _ _ | exact .iter _ _ | exact RenL.nil _ | refine RenL.cons ?_ ?_ | refine .cells _ _ _ ?_ | refine .cons _ _ _ _ rfl ?_ ?_ | refine .cons _ _ _ _ _ rfl rfl ?_ ?_ | refine .rowsE ?_ | refine .sE rfl ?_ | exact .m _ _ rfl | refine .fE rfl ?_ | exact RenO.mB _ | exact RenO.mB [] | fail))
    ·simp only [lA, List.length_cons, List.length_nil]; omega
    ·rw [w64 (by omega), lA, List.length_singleton]; rfl
    ·simp [rw1]
end
section
attribute [local irreducible] TwS TwR thenT inBlockT retT rightB threadC
theorem check_spec2 (p : Prg) (hp : okP p) : Pure prog Tabs 26 [.agg (cPrg p)] (tI (checkC p)) := by
 obtain ⟨h1, h2, h3, h4⟩ := hp
 refine Pure.at mixedOk F26 rfl fun C hP hG hp => goF ?_; simp only [F26, targEnv, Nat.zero_add, Nat.reduceAdd]
 have e1 : (p.syms.map cSym).length = p.syms.length := lM ..
 have e2 : (p.threads.map cTh).length = p.threads.length := lM ..
 by_cases hb : 64 < p.syms.length ∨ 64 < p.threads.length
 ·rw [show checkC p = 10 by rw [checkC, if_pos hb]]
  repeat' (first | refine goR rfl ?_ | refine goS rfl ?_ | refine tret1 rfl ?_ | refine tretN rfl ?_ | refine gY rfl rfl ?_ | refine gN rfl rfl ?_ | refine qT rfl rfl ?_ | refine qF rfl rfl ?_ | ((first | refine gS rfl (fun h => ?_) (fun h => ?_) | refine ts_cond rfl (fun h => ?_) (fun h => ?_)) <;> (try simp only [bs0, beq_iff_eq] at h) <;> try (exfalso; omega; done)) | fail)
  all_goals exact .fr rfl
 have hc : checkC p = if symsC [] p.syms = 0 then thsC p.syms p.threads else symsC [] p.syms := by rw [checkC, if_neg hb]
 repeat' (first | refine goR rfl ?_ | refine goS rfl ?_ | refine tret1 rfl ?_ | refine tretN rfl ?_ | refine gY rfl rfl ?_ | refine gN rfl rfl ?_ | refine qT rfl rfl ?_ | refine qF rfl rfl ?_ | ((first | refine gS rfl (fun h => ?_) (fun h => ?_) | refine ts_cond rfl (fun h => ?_) (fun h => ?_)) <;> (try simp only [bs0, beq_iff_eq] at h) <;> try (exfalso; omega; done)) | fail)
 refine loopS (fun m env σ => ∃ a b, p.syms = a ++ b ∧ m = b.length ∧ symsC [] p.syms = symsC (a.map fun s => s.name) b ∧ env = [(1, .p 0 0), (3, tI a.length)] ∧
  σ = ⟨[(0, .cells (cPrg p) 28)], 1⟩) p.syms.length ?_ ⟨[], p.syms, rfl, rfl, rfl, rfl, rfl⟩ ?_
 ·(refine w_ren [(0, 0)] rfl (by rw [hp]; intro j hj; cases hj) rfl ?_ ?_ <;> repeat' (first | exact .nil | exact .f _ rfl | exact .s _ _ _ _ _ _ rfl | exact .p _ _ _ rfl | exact .rows _ _ _ | exact .iter _ _ | exact RenL.nil _ | refine RenL.cons ?_ ?_ | refine .cells _ _ _ ?_ | refine .cons _ _ _ _ rfl ?_ ?_ | refine .cons _ _ _ _ _ rfl rfl ?_ ?_ | refine .rowsE ?_ | refine .sE rfl ?_ | exact .m _ _ rfl | refine .fE rfl ?_ | exact RenO.mB _ | exact RenO.mB [] | fail))
 rintro m env σ ⟨a, b, e, rfl, hI, rfl, rfl⟩
 have hla : p.syms.length = a.length + b.length := by rw [e, lA]
 cases b with
 | nil =>
  rw [List.length_nil] at hla
  rw [symsC] at hI
  rw [hI, if_pos rfl] at hc
  repeat' (first | refine goR rfl ?_ | refine goS rfl ?_ | refine tret1 rfl ?_ | refine tretN rfl ?_ | refine gY rfl rfl ?_ | refine gN rfl rfl ?_ | refine qT rfl rfl ?_ | refine qF rfl rfl ?_ | refine qF rfl (dF (by omega)) ?_ | fail)
  refine loopS (fun m env σ => ∃ a b, p.threads = a ++ b ∧ m = b.length ∧ thsC p.syms p.threads = thsC p.syms b ∧ env = [(1, .p 0 0), (6, tI a.length)] ∧
   σ = ⟨[(0, .cells (cPrg p) 28)], 1⟩) p.threads.length ?_ ⟨[], p.threads, rfl, rfl, rfl, rfl, rfl⟩ ?_
  ·(refine w_ren [(0, 0)] rfl (by rw [hp]; intro j hj; cases hj) rfl ?_ ?_ <;> repeat' (first | exact .nil | exact .f _ rfl | exact .s _ _ _ _ _ _ rfl | exact .p _ _ _ rfl | exact .rows _ _ _ | exact .iter _ _ | exact RenL.nil _ | refine RenL.cons ?_ ?_ | refine .cells _ _ _ ?_ | refine .cons _ _ _ _ rfl ?_ ?_ | refine .cons _ _ _ _ _ rfl rfl ?_ ?_ | refine .rowsE ?_ | refine .sE rfl ?_ | exact .m _ _ rfl | refine .fE rfl ?_ | exact RenO.mB _ | exact RenO.mB [] | fail))
  rintro m env σ ⟨a, b, e3, rfl, hT, rfl, rfl⟩
  have hla2 : p.threads.length = a.length + b.length := by rw [e3, lA]
  cases b with
  | nil =>
   rw [List.length_nil] at hla2
   repeat' (first | refine goR rfl ?_ | refine goS rfl ?_ | refine tret1 rfl ?_ | refine tretN rfl ?_ | refine gY rfl rfl ?_ | refine gN rfl rfl ?_ | refine qT rfl rfl ?_ | refine qF rfl rfl ?_ | refine qF rfl (dF (by omega)) ?_ | fail)
   rw [hc, hT]
   exact .fr rfl
  | cons x b =>
   have hx : p.threads[a.length]? = some x := by rw [e3]; exact ix
   simp only [List.length_cons] at hla2
   rw [thsC] at hT
   repeat' (first | refine goR rfl ?_ | refine goS rfl ?_ | refine tret1 rfl ?_ | refine tretN rfl ?_ | refine gY rfl rfl ?_ | refine gN rfl rfl ?_ | refine qT rfl rfl ?_ | refine qF rfl rfl ?_ | refine qT rfl (dT (by omega)) ?_ | refine lT (tl_ixm rfl rfl rfl hx) ?_ | refine cA rfl (by rw [hP, hG]; exact thread_spec2 p x (h4 x (by rw [e3]; simp))) rfl ?_ | ((first | refine gS rfl (fun h => ?_) (fun h => ?_) | refine ts_cond rfl (fun h => ?_) (fun h => ?_)) <;> try simp only [bs0, beq_iff_eq] at h) | fail)
   ·rw [hc, hT, if_neg h]
    exact .fr rfl
   ·rw [if_pos h] at hT
    refine again (m' := b.length) (Nat.lt_succ_self _) ?_ ⟨a ++ [x], b, by rw [e3]; simp, rfl, hT, rfl, rfl⟩
    (refine w_ren [(0, 0)] rfl (by rw [hp]; intro j hj; cases hj) rfl ?_ ?_ <;> repeat' (first | exact .nil | exact .f _ rfl | exact .s _ _ _ _ _ _ rfl | exact .p _ _ _ rfl | exact .rows _ _ _ | exact .iter _ _ | exact RenL.nil _ | refine RenL.cons ?_ ?_ | refine .cells _ _ _ ?_ | refine .cons _ _ _ _ rfl ?_ ?_ | refine .cons _ _ _ _ _ rfl rfl ?_ ?_ | refine .rowsE ?_ | refine .sE rfl ?_ | exact .m _ _ rfl | refine .fE rfl ?_ | exact RenO.mB _ | exact RenO.mB [] | fail))
    rw [w64 (by omega), lA, List.length_singleton]; rfl
 | cons x b =>
  have hx : p.syms[a.length]? = some x := by rw [e]; exact ix
  simp only [List.length_cons] at hla
  have hxs := h2 x (by rw [e]; simp)
  rw [symsC] at hI
  have e3 : (x.init.map fun n => [tI n]).length = x.init.length := lM ..
  repeat' (first | refine goR rfl ?_ | refine goS rfl ?_ | refine tret1 rfl ?_ | refine tretN rfl ?_ | refine gY rfl rfl ?_ | refine gN rfl rfl ?_ | refine qT rfl rfl ?_ | refine qF rfl rfl ?_ | refine qT rfl (dT (by omega)) ?_ | refine lT (tl_ixm rfl rfl rfl hx) ?_ | refine cA rfl (by rw [hP, hG]; exact right_spec2 x.name (by omega)) rfl ?_ | ((first | refine gS rfl (fun h => ?_) (fun h => ?_) | refine ts_cond rfl (fun h => ?_) (fun h => ?_)) <;> try simp only [bs0, beq_iff_eq] at h) | fail)
  ·rw [if_neg (by rw [h]; decide)] at hI
   rw [hc, hI, if_neg (by decide)]
   exact .fr rfl
  have h0 : rightB x.name = true := h
  rw [if_pos h0] at hI
  refine loopS (fun m env σ => ∃ c d, a = c ++ d ∧ m = d.length ∧ hasB x.name (c.map fun s => s.name) = false ∧ env = [(1, .p 0 0), (3, tI a.length), (4, .p 1 0), (5, tI c.length)] ∧
   σ = ⟨[(0, .cells (cPrg p) 28), (1, .cells (cSym x) 65)], 2⟩) a.length ?_ ⟨[], a, rfl, rfl, rfl, rfl, rfl⟩ ?_
  ·(refine w_ren [(0, 0), (1, 1)] rfl (by rw [hp]; intro j hj; cases hj) rfl ?_ ?_ <;> repeat' (first | exact .nil | exact .f _ rfl | exact .s _ _ _ _ _ _ rfl | exact .p _ _ _ rfl | exact .rows _ _ _ | exact .iter _ _ | exact RenL.nil _ | refine RenL.cons ?_ ?_ | refine .cells _ _ _ ?_ | refine .cons _ _ _ _ rfl ?_ ?_ | refine .cons _ _ _ _ _ rfl rfl ?_ ?_ | refine .rowsE ?_ | refine .sE rfl ?_ | exact .m _ _ rfl | refine .fE rfl ?_ | exact RenO.mB _ | exact RenO.mB [] | fail))
  rintro m env σ ⟨c, d, e4, rfl, hD, rfl, rfl⟩
  have hlc : a.length = c.length + d.length := by rw [e4, lA]
  cases d with
  | nil =>
   rw [List.length_nil] at hlc
   rw [List.append_nil] at e4
   subst e4
   rw [if_neg (by rw [hD]; decide)] at hI
   repeat' (first | refine goR rfl ?_ | refine goS rfl ?_ | refine tret1 rfl ?_ | refine tretN rfl ?_ | refine gY rfl rfl ?_ | refine gN rfl rfl ?_ | refine qT rfl rfl ?_ | refine qF rfl rfl ?_ | refine qF rfl (dF (by omega)) ?_ | ((first | refine gS rfl (fun h => ?_) (fun h => ?_) | refine ts_cond rfl (fun h => ?_) (fun h => ?_)) <;> try simp only [bs0, beq_iff_eq] at h) | fail)
   rotate_right
   ·have hs : symBad x = false := dF (by omega)
    rw [if_neg (by rw [hs]; decide)] at hI
    refine again (m' := b.length) (Nat.lt_succ_self _) ?_ ⟨a ++ [x], b, by rw [e]; simp, rfl, by rw [hI, List.map_append]; rfl, rfl, rfl⟩
    (refine w_ren [(0, 0)] rfl (by rw [hp]; intro j hj; cases hj) rfl ?_ ?_ <;> repeat' (first | exact .nil | exact .f _ rfl | exact .s _ _ _ _ _ _ rfl | exact .p _ _ _ rfl | exact .rows _ _ _ | exact .iter _ _ | exact RenL.nil _ | refine RenL.cons ?_ ?_ | refine .cells _ _ _ ?_ | refine .cons _ _ _ _ rfl ?_ ?_ | refine .cons _ _ _ _ _ rfl rfl ?_ ?_ | refine .rowsE ?_ | refine .sE rfl ?_ | exact .m _ _ rfl | refine .fE rfl ?_ | exact RenO.mB _ | exact RenO.mB [] | fail))
    rw [w64 (by omega), lA, List.length_singleton]; rfl
   all_goals
    have hs : symBad x = true := dT (by omega)
    rw [if_pos hs] at hI
    rw [hc, hI, if_neg (by decide)]
    exact .fr rfl
  | cons y d =>
   have hy : p.syms[c.length]? = some y := by rw [e, e4]; simp
   simp only [List.length_cons] at hlc
   repeat' (first | refine goR rfl ?_ | refine goS rfl ?_ | refine tret1 rfl ?_ | refine tretN rfl ?_ | refine gY rfl rfl ?_ | refine gN rfl rfl ?_ | refine qT rfl rfl ?_ | refine qF rfl rfl ?_ | refine qT rfl (dT (by omega)) ?_ | refine lT (tl_ixm rfl rfl rfl hy) ?_ | ((first | refine gS rfl (fun h => ?_) (fun h => ?_) | refine ts_cond rfl (fun h => ?_) (fun h => ?_)) <;> try simp only [bs0, beq_iff_eq] at h) | fail)
   ·have hh : hasB x.name (a.map fun s => s.name) = true := by
     rw [e4, List.map_append, hasB_app, List.map_cons, hasB, h]; simp
    rw [if_pos hh] at hI
    rw [hc, hI, if_neg (by decide)]
    exact .fr rfl
   ·refine again (m' := d.length) (Nat.lt_succ_self _) ?_ ⟨c ++ [y], d, by rw [e4]; simp, rfl, ?_, rfl, rfl⟩
    ·(refine w_ren [(0, 0), (1, 1)] rfl (by rw [hp]; intro j hj; cases hj) rfl ?_ ?_ <;> repeat' (first | exact .nil | exact .f _ rfl | exact .s _ _ _ _ _ _ rfl | exact .p _ _ _ rfl | exact .rows _ _ _ | exact .iter _ _ | exact RenL.nil _ | refine RenL.cons ?_ ?_ | refine .cells _ _ _ ?_ | refine .cons _ _ _ _ rfl ?_ ?_ | refine .cons _ _ _ _ _ rfl rfl ?_ ?_ | refine .rowsE ?_ | refine .sE rfl ?_ | exact .m _ _ rfl | refine .fE rfl ?_ | exact RenO.mB _ | exact RenO.mB [] | fail))
     rw [w64 (by omega), lA, List.length_singleton]; rfl
    ·rw [List.map_append, hasB_app, hD]
     have : ¬ x.name = y.name := fun e => h e.symm
     simp [hasB, this]
end
end Go.Proofs.YtnphhelbianjpaaGreatDoor
