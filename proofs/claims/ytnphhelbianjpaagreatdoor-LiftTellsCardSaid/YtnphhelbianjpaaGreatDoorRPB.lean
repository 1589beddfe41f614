/-
  Walks of functions of the program, and what the laws need of them.
-/
import Derived.Test.YtnphhelbianjpaaGreatDoorRPA
import Derived.Test.YtnphhelbianjpaaGreatDoorVG
import Derived.Test.YtnphhelbianjpaaGreatDoorVH
set_option linter.all false
set_option linter.unusedSimpArgs false
set_option linter.unusedVariables false
set_option linter.unnecessarySimpa false
namespace Go.Proofs.YtnphhelbianjpaaGreatDoor
set_option maxRecDepth 20000
open Go Go.Proofs.YtnphhelbianjpaaGreatDoor.V Go.Proofs

structure Opd where
 kind : Int
 reg : Int
 sym : Int
 n : Int
def cOpd (o : Opd) : List TV := [tI o.kind, tI o.reg, tI o.sym, tI o.n]
def okReg (r : Int) : Bool := decide (0 ≤ r ∧ r ≤ 7)
def okOpd (o : Opd) : Bool := decide ((o.kind = 1 ∧ (0 ≤ o.reg ∧ o.reg ≤ 7) ∧ o.sym = 0 ∧ o.n = 0) ∨ (o.kind = 2 ∧ o.reg = 0 ∧ o.sym = 0) ∨ (o.kind = 3 ∧ 0 ≤ o.sym ∧ 0 ≤ o.n ∧ o.reg = 0) ∨ (o.kind = 4 ∧ 0 ≤ o.sym ∧ (0 ≤ o.reg ∧ o.reg ≤ 7) ∧ o.n = 0))
def isMem (o : Opd) : Bool := okOpd o && decide (o.kind = 3 ∨ o.kind = 4)
def isReg (o : Opd) : Bool := okOpd o && decide (o.kind = 1)
def isPlain (o : Opd) : Bool := okOpd o && !isMem o

section
attribute [local irreducible] TwS TwR thenT inBlockT retT
variable {G : World → Prop}

theorem register_spec (r : Int) : Pure prog G 159 [tI r] (tB (okReg r)) := by
 refine Pure.at mixedOk F159 rfl fun C hP hG hp => ?_
 simp only [F159, targEnv, Nat.zero_add, Nat.reduceAdd]
 repeat' (first | refine ts_seq (fun K hK hW => ?_) | refine ts_reg ?_ | refine tr_nil ?_ | refine tr_ev rfl ?_ | refine use_K (by assumption) ?_ | refine tr_guard_u rfl ?_ | refine gY rfl rfl ?_ | refine gN rfl rfl ?_ | refine tr_alloc rfl ?_ | refine tr_store rfl rfl rfl rfl rfl rfl rfl ?_ | refine qT rfl rfl ?_ | refine qF rfl rfl ?_ | refine ts_nop ?_ | refine ts_block ?_ | refine ts_exit ?_ | refine ts_ret ?_ | refine th_exit ?_ | refine th_ret ?_ | refine bl_normal ?_ | refine bl_ret ?_ | refine bl_hit ?_ | refine bl_miss rfl ?_ | refine tret_of (.inr rfl) rfl ?_ | (refine gS rfl (fun h => ?_) (fun h => ?_) <;> try simp only [bs0, beq_iff_eq] at h) | (refine ts_cond rfl (fun h => ?_) (fun h => ?_) <;> try simp only [bs0, beq_iff_eq] at h) | fail)
 all_goals exact .vb (by rw [Bool.eq_iff_iff]; simp only [okReg, decide_eq_true_eq, Bool.and_eq_true, Bool.or_eq_true, Bool.not_eq_true', decide_eq_false_iff_not, Bool.false_eq_true, true_iff, iff_true, false_iff, iff_false]; omega)
theorem opdRight_spec (o : Opd) : Pure prog G 158 [.agg (cOpd o)] (tB (okOpd o)) := by
 refine Pure.at mixedOk F158 rfl fun C hP hG hp => ?_
 simp only [F158, targEnv, Nat.zero_add, Nat.reduceAdd]
 repeat' (first | refine ts_seq (fun K hK hW => ?_) | refine ts_reg ?_ | refine tr_nil ?_ | refine tr_ev rfl ?_ | refine use_K (by assumption) ?_ | refine tr_guard_u rfl ?_ | refine gY rfl rfl ?_ | refine gN rfl rfl ?_ | refine tr_alloc rfl ?_ | refine tr_store rfl rfl rfl rfl rfl rfl rfl ?_ | refine qT rfl rfl ?_ | refine qF rfl rfl ?_ | refine ts_nop ?_ | refine ts_block ?_ | refine ts_exit ?_ | refine ts_ret ?_ | refine th_exit ?_ | refine th_ret ?_ | refine bl_normal ?_ | refine bl_ret ?_ | refine bl_hit ?_ | refine bl_miss rfl ?_ | refine tret_of (.inr rfl) rfl ?_ | refine cA rfl (by rw [hP]; exact register_spec _) rfl ?_ | (refine gS rfl (fun h => ?_) (fun h => ?_) <;> try simp only [bs0, beq_iff_eq] at h) | (refine ts_cond rfl (fun h => ?_) (fun h => ?_) <;> try simp only [bs0, beq_iff_eq] at h) | fail)
 all_goals try simp only [okReg, decide_eq_true_eq, decide_eq_false_iff_not] at *
 all_goals exact .vb (by rw [Bool.eq_iff_iff]; simp only [okOpd, decide_eq_true_eq, Bool.and_eq_true, Bool.or_eq_true, Bool.not_eq_true', decide_eq_false_iff_not, Bool.false_eq_true, true_iff, iff_true, false_iff, iff_false]; omega)

def partOf (o : Opd) : TV := if o.kind = 1 then .ifc 205 (.agg [tI o.reg]) else if o.kind = 2 then .ifc 207 (.agg [tI o.n]) else if o.kind = 3 then .ifc 209 (.agg [tI o.sym, tI o.n]) else .ifc 211 (.agg [tI o.sym, tI o.reg])
theorem of_spec (o : Opd) (ho : okOpd o = true) : Pure prog G 147 [.agg (cOpd o)] (.tup [partOf o, tB true]) := by
 have c := fun G => opdRight_spec (G := G) o
 simp only [ho] at c
 simp only [okOpd, decide_eq_true_eq] at ho
 refine Pure.at mixedOk F147 rfl fun C hP hG hp => ?_
 simp only [F147, targEnv, Nat.zero_add, Nat.reduceAdd]
 repeat' (first | refine ts_seq (fun K hK hW => ?_) | refine ts_reg ?_ | refine tr_nil ?_ | refine tr_ev rfl ?_ | refine use_K (by assumption) ?_ | refine tr_guard_u rfl ?_ | refine gY rfl rfl ?_ | refine gN rfl rfl ?_ | refine tr_alloc rfl ?_ | refine tr_store rfl rfl rfl rfl rfl rfl rfl ?_ | refine qT rfl rfl ?_ | refine qF rfl rfl ?_ | refine ts_nop ?_ | refine ts_block ?_ | refine ts_exit ?_ | refine ts_ret ?_ | refine th_exit ?_ | refine th_ret ?_ | refine bl_normal ?_ | refine bl_ret ?_ | refine bl_hit ?_ | refine bl_miss rfl ?_ | refine tret_of (.inr rfl) rfl ?_ | refine cA rfl (by rw [hP]; exact c _) rfl ?_ | (refine gS rfl (fun h => ?_) (fun h => ?_) <;> try simp only [bs0, beq_iff_eq] at h) | (refine ts_cond rfl (fun h => ?_) (fun h => ?_) <;> try simp only [bs0, beq_iff_eq] at h) | fail)
 ·rw [partOf, if_pos h]; exact .fr rfl
 ·rw [partOf, if_neg (by assumption), if_pos h]; exact .fr rfl
 ·rw [partOf, if_neg (by omega), if_neg (by omega), if_pos h]; exact .fr rfl
 ·rw [partOf, if_neg (by omega), if_neg (by omega), if_neg (by omega)]; exact .fr rfl
theorem of_no (o : Opd) (ho : okOpd o = false) : Pure prog G 147 [.agg (cOpd o)] (.tup [.v .nilIface, tB false]) := by
 have c := fun G => opdRight_spec (G := G) o
 simp only [ho] at c
 refine Pure.at mixedOk F147 rfl fun C hP hG hp => ?_
 simp only [F147, targEnv, Nat.zero_add, Nat.reduceAdd]
 repeat' (first | refine ts_seq (fun K hK hW => ?_) | refine ts_reg ?_ | refine tr_nil ?_ | refine tr_ev rfl ?_ | refine use_K (by assumption) ?_ | refine tr_guard_u rfl ?_ | refine gY rfl rfl ?_ | refine gN rfl rfl ?_ | refine tr_alloc rfl ?_ | refine tr_store rfl rfl rfl rfl rfl rfl rfl ?_ | refine qT rfl rfl ?_ | refine qF rfl rfl ?_ | refine ts_nop ?_ | refine ts_block ?_ | refine ts_exit ?_ | refine ts_ret ?_ | refine th_exit ?_ | refine th_ret ?_ | refine bl_normal ?_ | refine bl_ret ?_ | refine bl_hit ?_ | refine bl_miss rfl ?_ | refine tret_of (.inr rfl) rfl ?_ | refine cA rfl (by rw [hP]; exact c _) rfl ?_ | fail)
 exact .fr rfl
end
end Go.Proofs.YtnphhelbianjpaaGreatDoor
namespace Go.Proofs.YtnphhelbianjpaaGreatDoor
set_option maxRecDepth 20000
open Go Go.Proofs.YtnphhelbianjpaaGreatDoor.V Go.Proofs
section
attribute [local irreducible] TwS TwR thenT inBlockT retT okOpd okReg
variable {G : World → Prop}

theorem part_kinds {o : Opd} (ho : okOpd o = true) : o.kind = 1 ∨ o.kind = 2 ∨ o.kind = 3 ∨ o.kind = 4 := by
 unfold okOpd at ho
 simp only [decide_eq_true_eq] at ho
 omega
theorem part1 {o : Opd} (h : o.kind = 1) : partOf o = .ifc 205 (.agg [tI o.reg]) := if_pos h
theorem part2 {o : Opd} (h : o.kind = 2) : partOf o = .ifc 207 (.agg [tI o.n]) := by rw [partOf, if_neg (by omega), if_pos h]
theorem part3 {o : Opd} (h : o.kind = 3) : partOf o = .ifc 209 (.agg [tI o.sym, tI o.n]) := by rw [partOf, if_neg (by omega), if_neg (by omega), if_pos h]
theorem part4 {o : Opd} (h : o.kind = 4) : partOf o = .ifc 211 (.agg [tI o.sym, tI o.reg]) := by rw [partOf, if_neg (by omega), if_neg (by omega), if_neg (by omega)]

theorem partMem_spec (o : Opd) (ho : okOpd o = true) : Pure prog G 148 [partOf o] (.tup [tI (if o.kind = 3 ∨ o.kind = 4 then o.sym else 0), tB (decide (o.kind = 3 ∨ o.kind = 4))]) := by
 refine Pure.at mixedOk F148 rfl fun C hP hG hp => ?_
 simp only [F148, targEnv, Nat.zero_add, Nat.reduceAdd]
 rcases part_kinds ho with h | h | h | h
 ·rw [part1 h, if_neg (by omega), dF (by omega)]
  repeat' (first | refine ts_seq (fun K hK hW => ?_) | refine ts_reg ?_ | refine tr_nil ?_ | refine tr_ev rfl ?_ | refine use_K (by assumption) ?_ | refine tr_guard_u rfl ?_ | refine gY rfl rfl ?_ | refine gN rfl rfl ?_ | refine tr_alloc rfl ?_ | refine tr_store rfl rfl rfl rfl rfl rfl rfl ?_ | refine qT rfl rfl ?_ | refine qF rfl rfl ?_ | refine ts_nop ?_ | refine ts_block ?_ | refine ts_exit ?_ | refine ts_ret ?_ | refine th_exit ?_ | refine th_ret ?_ | refine bl_normal ?_ | refine bl_ret ?_ | refine bl_hit ?_ | refine bl_miss rfl ?_ | refine tret_of (.inr rfl) rfl ?_ | refine lT (tl_asrt_no rfl rfl (by simp [flatV, atom])) ?_ | fail)
  exact .fr rfl
 ·rw [part2 h, if_neg (by omega), dF (by omega)]
  repeat' (first | refine ts_seq (fun K hK hW => ?_) | refine ts_reg ?_ | refine tr_nil ?_ | refine tr_ev rfl ?_ | refine use_K (by assumption) ?_ | refine tr_guard_u rfl ?_ | refine gY rfl rfl ?_ | refine gN rfl rfl ?_ | refine tr_alloc rfl ?_ | refine tr_store rfl rfl rfl rfl rfl rfl rfl ?_ | refine qT rfl rfl ?_ | refine qF rfl rfl ?_ | refine ts_nop ?_ | refine ts_block ?_ | refine ts_exit ?_ | refine ts_ret ?_ | refine th_exit ?_ | refine th_ret ?_ | refine bl_normal ?_ | refine bl_ret ?_ | refine bl_hit ?_ | refine bl_miss rfl ?_ | refine tret_of (.inr rfl) rfl ?_ | refine lT (tl_asrt_no rfl rfl (by simp [flatV, atom])) ?_ | fail)
  exact .fr rfl
 ·rw [part3 h, if_pos (by omega), dT (by omega)]
  repeat' (first | refine ts_seq (fun K hK hW => ?_) | refine ts_reg ?_ | refine tr_nil ?_ | refine tr_ev rfl ?_ | refine use_K (by assumption) ?_ | refine tr_guard_u rfl ?_ | refine gY rfl rfl ?_ | refine gN rfl rfl ?_ | refine tr_alloc rfl ?_ | refine tr_store rfl rfl rfl rfl rfl rfl rfl ?_ | refine qT rfl rfl ?_ | refine qF rfl rfl ?_ | refine ts_nop ?_ | refine ts_block ?_ | refine ts_exit ?_ | refine ts_ret ?_ | refine th_exit ?_ | refine th_ret ?_ | refine bl_normal ?_ | refine bl_ret ?_ | refine bl_hit ?_ | refine bl_miss rfl ?_ | refine tret_of (.inr rfl) rfl ?_ | refine lT (tl_asrt_no rfl rfl (by simp [flatV, atom])) ?_ | fail)
  exact .fr rfl
 ·rw [part4 h, if_pos (by omega), dT (by omega)]
  repeat' (first | refine ts_seq (fun K hK hW => ?_) | refine ts_reg ?_ | refine tr_nil ?_ | refine tr_ev rfl ?_ | refine use_K (by assumption) ?_ | refine tr_guard_u rfl ?_ | refine gY rfl rfl ?_ | refine gN rfl rfl ?_ | refine tr_alloc rfl ?_ | refine tr_store rfl rfl rfl rfl rfl rfl rfl ?_ | refine qT rfl rfl ?_ | refine qF rfl rfl ?_ | refine ts_nop ?_ | refine ts_block ?_ | refine ts_exit ?_ | refine ts_ret ?_ | refine th_exit ?_ | refine th_ret ?_ | refine bl_normal ?_ | refine bl_ret ?_ | refine bl_hit ?_ | refine bl_miss rfl ?_ | refine tret_of (.inr rfl) rfl ?_ | refine lT (tl_asrt_no rfl rfl (by simp [flatV, atom])) ?_ | fail)
  exact .fr rfl

theorem memory_spec (o : Opd) : Pure prog G 134 [.agg (cOpd o)] (tB (isMem o)) := by
 refine Pure.at mixedOk F134 rfl fun C hP hG hp => ?_
 simp only [F134, targEnv, Nat.zero_add, Nat.reduceAdd]
 cases ho : okOpd o with
 | false =>
  rw [isMem, ho]
  repeat' (first | refine ts_seq (fun K hK hW => ?_) | refine ts_reg ?_ | refine tr_nil ?_ | refine tr_ev rfl ?_ | refine use_K (by assumption) ?_ | refine tr_guard_u rfl ?_ | refine gY rfl rfl ?_ | refine gN rfl rfl ?_ | refine tr_alloc rfl ?_ | refine tr_store rfl rfl rfl rfl rfl rfl rfl ?_ | refine qT rfl rfl ?_ | refine qF rfl rfl ?_ | refine ts_nop ?_ | refine ts_block ?_ | refine ts_exit ?_ | refine ts_ret ?_ | refine th_exit ?_ | refine th_ret ?_ | refine bl_normal ?_ | refine bl_ret ?_ | refine bl_hit ?_ | refine bl_miss rfl ?_ | refine tret_of (.inr rfl) rfl ?_ | refine cA rfl (by rw [hP]; exact of_no _ ho) rfl ?_ | fail)
  exact .fr rfl
 | true =>
  rw [isMem, ho, Bool.true_and]
  have c := fun G => of_spec (G := G) o ho
  have e := fun G => partMem_spec (G := G) o ho
  rcases part_kinds ho with h | h | h | h
  ·simp only [part1 h] at c e
   repeat' (first | refine ts_seq (fun K hK hW => ?_) | refine ts_reg ?_ | refine tr_nil ?_ | refine tr_ev rfl ?_ | refine use_K (by assumption) ?_ | refine tr_guard_u rfl ?_ | refine gY rfl rfl ?_ | refine gN rfl rfl ?_ | refine tr_alloc rfl ?_ | refine tr_store rfl rfl rfl rfl rfl rfl rfl ?_ | refine qT rfl rfl ?_ | refine qF rfl rfl ?_ | refine ts_nop ?_ | refine ts_block ?_ | refine ts_exit ?_ | refine ts_ret ?_ | refine th_exit ?_ | refine th_ret ?_ | refine bl_normal ?_ | refine bl_ret ?_ | refine bl_hit ?_ | refine bl_miss rfl ?_ | refine tret_of (.inr rfl) rfl ?_ | refine cA rfl (by rw [hP]; exact c _) rfl ?_ | refine cA rfl (by rw [hP]; exact e _) rfl ?_ | fail)
   exact .fr rfl
  ·simp only [part2 h] at c e
   repeat' (first | refine ts_seq (fun K hK hW => ?_) | refine ts_reg ?_ | refine tr_nil ?_ | refine tr_ev rfl ?_ | refine use_K (by assumption) ?_ | refine tr_guard_u rfl ?_ | refine gY rfl rfl ?_ | refine gN rfl rfl ?_ | refine tr_alloc rfl ?_ | refine tr_store rfl rfl rfl rfl rfl rfl rfl ?_ | refine qT rfl rfl ?_ | refine qF rfl rfl ?_ | refine ts_nop ?_ | refine ts_block ?_ | refine ts_exit ?_ | refine ts_ret ?_ | refine th_exit ?_ | refine th_ret ?_ | refine bl_normal ?_ | refine bl_ret ?_ | refine bl_hit ?_ | refine bl_miss rfl ?_ | refine tret_of (.inr rfl) rfl ?_ | refine cA rfl (by rw [hP]; exact c _) rfl ?_ | refine cA rfl (by rw [hP]; exact e _) rfl ?_ | fail)
   exact .fr rfl
  ·simp only [part3 h] at c e
   repeat' (first | refine ts_seq (fun K hK hW => ?_) | refine ts_reg ?_ | refine tr_nil ?_ | refine tr_ev rfl ?_ | refine use_K (by assumption) ?_ | refine tr_guard_u rfl ?_ | refine gY rfl rfl ?_ | refine gN rfl rfl ?_ | refine tr_alloc rfl ?_ | refine tr_store rfl rfl rfl rfl rfl rfl rfl ?_ | refine qT rfl rfl ?_ | refine qF rfl rfl ?_ | refine ts_nop ?_ | refine ts_block ?_ | refine ts_exit ?_ | refine ts_ret ?_ | refine th_exit ?_ | refine th_ret ?_ | refine bl_normal ?_ | refine bl_ret ?_ | refine bl_hit ?_ | refine bl_miss rfl ?_ | refine tret_of (.inr rfl) rfl ?_ | refine cA rfl (by rw [hP]; exact c _) rfl ?_ | refine cA rfl (by rw [hP]; exact e _) rfl ?_ | fail)
   exact .fr rfl
  ·simp only [part4 h] at c e
   repeat' (first | refine ts_seq (fun K hK hW => ?_) | refine ts_reg ?_ | refine tr_nil ?_ | refine tr_ev rfl ?_ | refine use_K (by assumption) ?_ | refine tr_guard_u rfl ?_ | refine gY rfl rfl ?_ | refine gN rfl rfl ?_ | refine tr_alloc rfl ?_ | refine tr_store rfl rfl rfl rfl rfl rfl rfl ?_ | refine qT rfl rfl ?_ | refine qF rfl rfl ?_ | refine ts_nop ?_ | refine ts_block ?_ | refine ts_exit ?_ | refine ts_ret ?_ | refine th_exit ?_ | refine th_ret ?_ | refine bl_normal ?_ | refine bl_ret ?_ | refine bl_hit ?_ | refine bl_miss rfl ?_ | refine tret_of (.inr rfl) rfl ?_ | refine cA rfl (by rw [hP]; exact c _) rfl ?_ | refine cA rfl (by rw [hP]; exact e _) rfl ?_ | fail)
   exact .fr rfl
theorem register_spec2 (o : Opd) : Pure prog G 155 [.agg (cOpd o)] (tB (isReg o)) := by
 refine Pure.at mixedOk F155 rfl fun C hP hG hp => ?_
 simp only [F155, targEnv, Nat.zero_add, Nat.reduceAdd]
 cases ho : okOpd o with
 | false =>
  rw [isReg, ho]
  repeat' (first | refine ts_seq (fun K hK hW => ?_) | refine ts_reg ?_ | refine tr_nil ?_ | refine tr_ev rfl ?_ | refine use_K (by assumption) ?_ | refine tr_guard_u rfl ?_ | refine gY rfl rfl ?_ | refine gN rfl rfl ?_ | refine tr_alloc rfl ?_ | refine tr_store rfl rfl rfl rfl rfl rfl rfl ?_ | refine qT rfl rfl ?_ | refine qF rfl rfl ?_ | refine ts_nop ?_ | refine ts_block ?_ | refine ts_exit ?_ | refine ts_ret ?_ | refine th_exit ?_ | refine th_ret ?_ | refine bl_normal ?_ | refine bl_ret ?_ | refine bl_hit ?_ | refine bl_miss rfl ?_ | refine tret_of (.inr rfl) rfl ?_ | refine cA rfl (by rw [hP]; exact of_no _ ho) rfl ?_ | fail)
  exact .fr rfl
 | true =>
  rw [isReg, ho, Bool.true_and]
  have c := fun G => of_spec (G := G) o ho
  rcases part_kinds ho with h | h | h | h
  ·simp only [part1 h] at c
   rw [dT h]
   repeat' (first | refine ts_seq (fun K hK hW => ?_) | refine ts_reg ?_ | refine tr_nil ?_ | refine tr_ev rfl ?_ | refine use_K (by assumption) ?_ | refine tr_guard_u rfl ?_ | refine gY rfl rfl ?_ | refine gN rfl rfl ?_ | refine tr_alloc rfl ?_ | refine tr_store rfl rfl rfl rfl rfl rfl rfl ?_ | refine qT rfl rfl ?_ | refine qF rfl rfl ?_ | refine ts_nop ?_ | refine ts_block ?_ | refine ts_exit ?_ | refine ts_ret ?_ | refine th_exit ?_ | refine th_ret ?_ | refine bl_normal ?_ | refine bl_ret ?_ | refine bl_hit ?_ | refine bl_miss rfl ?_ | refine tret_of (.inr rfl) rfl ?_ | refine cA rfl (by rw [hP]; exact c _) rfl ?_ | refine lT (tl_asrt_no rfl rfl (by simp [flatV, atom])) ?_ | fail)
   exact .fr rfl
  ·simp only [part2 h] at c
   rw [dF (by omega)]
   repeat' (first | refine ts_seq (fun K hK hW => ?_) | refine ts_reg ?_ | refine tr_nil ?_ | refine tr_ev rfl ?_ | refine use_K (by assumption) ?_ | refine tr_guard_u rfl ?_ | refine gY rfl rfl ?_ | refine gN rfl rfl ?_ | refine tr_alloc rfl ?_ | refine tr_store rfl rfl rfl rfl rfl rfl rfl ?_ | refine qT rfl rfl ?_ | refine qF rfl rfl ?_ | refine ts_nop ?_ | refine ts_block ?_ | refine ts_exit ?_ | refine ts_ret ?_ | refine th_exit ?_ | refine th_ret ?_ | refine bl_normal ?_ | refine bl_ret ?_ | refine bl_hit ?_ | refine bl_miss rfl ?_ | refine tret_of (.inr rfl) rfl ?_ | refine cA rfl (by rw [hP]; exact c _) rfl ?_ | refine lT (tl_asrt_no rfl rfl (by simp [flatV, atom])) ?_ | fail)
   exact .fr rfl
  ·simp only [part3 h] at c
   rw [dF (by omega)]
   repeat' (first | refine ts_seq (fun K hK hW => ?_) | refine ts_reg ?_ | refine tr_nil ?_ | refine tr_ev rfl ?_ | refine use_K (by assumption) ?_ | refine tr_guard_u rfl ?_ | refine gY rfl rfl ?_ | refine gN rfl rfl ?_ | refine tr_alloc rfl ?_ | refine tr_store rfl rfl rfl rfl rfl rfl rfl ?_ | refine qT rfl rfl ?_ | refine qF rfl rfl ?_ | refine ts_nop ?_ | refine ts_block ?_ | refine ts_exit ?_ | refine ts_ret ?_ | refine th_exit ?_ | refine th_ret ?_ | refine bl_normal ?_ | refine bl_ret ?_ | refine bl_hit ?_ | refine bl_miss rfl ?_ | refine tret_of (.inr rfl) rfl ?_ | refine cA rfl (by rw [hP]; exact c _) rfl ?_ | refine lT (tl_asrt_no rfl rfl (by simp [flatV, atom])) ?_ | fail)
   exact .fr rfl
  ·simp only [part4 h] at c
   rw [dF (by omega)]
   repeat' (first | refine ts_seq (fun K hK hW => ?_) | refine ts_reg ?_ | refine tr_nil ?_ | refine tr_ev rfl ?_ | refine use_K (by assumption) ?_ | refine tr_guard_u rfl ?_ | refine gY rfl rfl ?_ | refine gN rfl rfl ?_ | refine tr_alloc rfl ?_ | refine tr_store rfl rfl rfl rfl rfl rfl rfl ?_ | refine qT rfl rfl ?_ | refine qF rfl rfl ?_ | refine ts_nop ?_ | refine ts_block ?_ | refine ts_exit ?_ | refine ts_ret ?_ | refine th_exit ?_ | refine th_ret ?_ | refine bl_normal ?_ | refine bl_ret ?_ | refine bl_hit ?_ | refine bl_miss rfl ?_ | refine tret_of (.inr rfl) rfl ?_ | refine cA rfl (by rw [hP]; exact c _) rfl ?_ | refine lT (tl_asrt_no rfl rfl (by simp [flatV, atom])) ?_ | fail)
   exact .fr rfl
theorem plain_spec (o : Opd) : Pure prog G 156 [.agg (cOpd o)] (tB (isPlain o)) := by
 refine Pure.at mixedOk F156 rfl fun C hP hG hp => ?_
 simp only [F156, targEnv, Nat.zero_add, Nat.reduceAdd]
 repeat' (first | refine ts_seq (fun K hK hW => ?_) | refine ts_reg ?_ | refine tr_nil ?_ | refine tr_ev rfl ?_ | refine use_K (by assumption) ?_ | refine tr_guard_u rfl ?_ | refine gY rfl rfl ?_ | refine gN rfl rfl ?_ | refine tr_alloc rfl ?_ | refine tr_store rfl rfl rfl rfl rfl rfl rfl ?_ | refine qT rfl rfl ?_ | refine qF rfl rfl ?_ | refine ts_nop ?_ | refine ts_block ?_ | refine ts_exit ?_ | refine ts_ret ?_ | refine th_exit ?_ | refine th_ret ?_ | refine bl_normal ?_ | refine bl_ret ?_ | refine bl_hit ?_ | refine bl_miss rfl ?_ | refine tret_of (.inr rfl) rfl ?_ | refine cA rfl (by rw [hP]; exact opdRight_spec _) rfl ?_ | refine cA rfl (by rw [hP]; exact memory_spec _) rfl ?_ | (refine gS rfl (fun h => ?_) (fun h => ?_) <;> try simp only [bs0, beq_iff_eq] at h) | (refine ts_cond rfl (fun h => ?_) (fun h => ?_) <;> try simp only [bs0, beq_iff_eq] at h) | fail)
 all_goals refine .vb ?_
 all_goals simp_all [isPlain]
theorem reckons_spec (op : Int) : Pure prog G 157 [tI op] (tB (decide (2 ≤ op ∧ op ≤ 6))) := by
 refine Pure.at mixedOk F157 rfl fun C hP hG hp => ?_
 simp only [F157, targEnv, Nat.zero_add, Nat.reduceAdd]
 repeat' (first | refine ts_seq (fun K hK hW => ?_) | refine ts_reg ?_ | refine tr_nil ?_ | refine tr_ev rfl ?_ | refine use_K (by assumption) ?_ | refine tr_guard_u rfl ?_ | refine gY rfl rfl ?_ | refine gN rfl rfl ?_ | refine tr_alloc rfl ?_ | refine tr_store rfl rfl rfl rfl rfl rfl rfl ?_ | refine qT rfl rfl ?_ | refine qF rfl rfl ?_ | refine ts_nop ?_ | refine ts_block ?_ | refine ts_exit ?_ | refine ts_ret ?_ | refine th_exit ?_ | refine th_ret ?_ | refine bl_normal ?_ | refine bl_ret ?_ | refine bl_hit ?_ | refine bl_miss rfl ?_ | refine tret_of (.inr rfl) rfl ?_ | (refine gS rfl (fun h => ?_) (fun h => ?_) <;> try simp only [bs0, beq_iff_eq] at h) | (refine ts_cond rfl (fun h => ?_) (fun h => ?_) <;> try simp only [bs0, beq_iff_eq] at h) | fail)
 all_goals exact .vb (by rw [Bool.eq_iff_iff]; simp only [decide_eq_true_eq, Bool.and_eq_true, Bool.or_eq_true, Bool.not_eq_true', decide_eq_false_iff_not, Bool.false_eq_true, true_iff, iff_true, false_iff, iff_false]; omega)
end
end Go.Proofs.YtnphhelbianjpaaGreatDoor
namespace Go.Proofs.YtnphhelbianjpaaGreatDoor
set_option maxRecDepth 20000
open Go Go.Proofs.YtnphhelbianjpaaGreatDoor.V Go.Proofs

structure Ins where
 op : Int
 lock : Bool
 cond : Int
 a : Opd
 b : Opd
 to : ByteArray
 labels : List ByteArray
def cIns (i : Ins) : List TV := [tI i.op, tB i.lock, tI i.cond, tI i.a.kind, tI i.a.reg, tI i.a.sym, tI i.a.n, tI i.b.kind, tI i.b.reg, tI i.b.sym, tI i.b.n, tS i.to, .lst 1 (i.labels.map fun s => [tS s])]
def isZero (o : Opd) : Bool := decide (o.kind = 0) && (decide (o.reg = 0) && (decide (o.sym = 0) && (decide (o.n = 0) && true)))
def twoB (i : Ins) : Bool := isReg i.a && (isPlain i.b || isMem i.b) || isMem i.a && isPlain i.b
def condB (i : Ins) : Bool := if i.op = 11 then decide (1 ≤ i.cond ∧ i.cond ≤ 10) else decide (i.cond = 0)
def formB (i : Ins) : Bool := if i.op = 1 ∨ i.op = 7 then twoB i && !i.lock else if 2 ≤ i.op ∧ i.op ≤ 6 then twoB i && (!i.lock || isMem i.a) else if i.op = 8 ∨ i.op = 9 then isMem i.a && isReg i.b && (i.lock == decide (i.op = 9))
 else if 10 ≤ i.op ∧ i.op ≤ 14 then !i.lock && isZero i.a && isZero i.b else false
def fitsB (i : Ins) : Bool := condB i && formB i

theorem isZero_def (o : Opd) : isZero o = beqL [.int .i64 o.kind, .int .i64 o.reg, .int .i64 o.sym, .int .i64 o.n] [.int .i64 0, .int .i64 0, .int .i64 0, .int .i64 0] := rfl
theorem sh_opd : shapeOf prog 10000 71 = some [.i .i64, .i .i64, .i .i64, .i .i64] := by kernel_rfl
theorem ag_opd : (prog.underlying 71).map aggD = some true := by kernel_rfl
theorem eg_opd : prog.eqGuardType prog.depth 71 = false := by kernel_rfl

section
attribute [local irreducible] TwS TwR thenT inBlockT retT okOpd okReg isReg isMem isPlain isZero beqL
variable {G : World → Prop}

set_option maxHeartbeats 2000000 in
theorem fits_spec (i : Ins) : Pure prog G 146 [.agg (cIns i)] (tB (fitsB i)) := by
 refine Pure.at mixedOk F146 rfl fun C hP hG hp => ?_
 simp only [F146, targEnv, Nat.zero_add, Nat.reduceAdd]
 refine ts_seq (fun K hK hW => ?_)
 repeat' (first | refine ts_reg ?_ | refine tr_nil ?_ | refine tr_ev rfl ?_ | refine tr_alloc rfl ?_ | refine use_K (by assumption) ?_ | fail)
 refine ts_seq (fun K2 hK2 hW2 => ?_)
 have key2 : condB i = true → ∀ e1 s1, Weak C e1 s1 [(1, .p 0 0)] ⟨[(0, .cells (cIns i) 74)], 1⟩ → K2 e1 s1 := by
  intro hc e1 s1 hw
  refine hW2 _ _ _ _ hw ?_
  clear hK2 hW2 hw
  refine ts_seq (fun K3 hK3 hW3 => ?_)
  have key3 : ∀ e1 s1, Weak C e1 s1 [(1, .p 0 0), (3, tB (twoB i))] ⟨[(0, .cells (cIns i) 74)], 1⟩ → K3 e1 s1 := by
   intro e1 s1 hw
   refine hW3 _ _ _ _ hw ?_
   clear hK3 hW3 hw
   rw [fitsB, hc, Bool.true_and]
   generalize ht : twoB i = tw
   cases tw
   all_goals repeat' (first | refine ts_seq (fun K hK hW => ?_) | refine ts_reg ?_ | refine tr_nil ?_ | refine tr_ev rfl ?_ | refine use_K (by assumption) ?_ | refine tr_guard_u rfl ?_ | refine gY rfl rfl ?_ | refine gN rfl rfl ?_ | refine tr_alloc rfl ?_ | refine tr_store rfl rfl rfl rfl rfl rfl rfl ?_ | refine qT rfl rfl ?_ | refine qF rfl rfl ?_ | refine ts_nop ?_ | refine ts_block ?_ | refine ts_exit ?_ | refine ts_ret ?_ | refine th_exit ?_ | refine th_ret ?_ | refine bl_normal ?_ | refine bl_ret ?_ | refine bl_hit ?_ | refine bl_miss rfl ?_ | refine tret_of (.inr rfl) rfl ?_ | refine cA rfl (by rw [hP]; exact register_spec2 i.b) rfl ?_ | refine cA rfl (by rw [hP]; exact memory_spec i.a) rfl ?_ | refine cA rfl (by rw [hP]; exact reckons_spec _) rfl ?_ | refine lT (tl_eqs (by rw [hP]; exact sh_opd) (by rw [hP]; exact ag_opd) (by rw [hP]; exact eg_opd) rfl rfl rfl rfl rfl rfl) ?_ | refine lT (tl_eqb (by rw [hP]; exact ut_bool) rfl rfl) ?_ | (refine gS rfl (fun h => ?_) (fun h => ?_) <;> (try simp only [bs0, beq_iff_eq] at h) <;> try (exfalso; omega; done)) | (refine ts_cond rfl (fun h => ?_) (fun h => ?_) <;> (try simp only [bs0, beq_iff_eq] at h) <;> try (exfalso; omega; done)) | fail)
   all_goals clear hK hW
   all_goals (refine .vb ?_; unfold formB; rw [ht])
   all_goals repeat' split
   all_goals first | (exfalso; omega; done) | rfl | (simp [*]; done) | (simp_all; done) | (rw [isZero_def, isZero_def]; simp_all only [Bool.not_false, Bool.not_true, Bool.true_and, Bool.false_and, Bool.and_false]; done) | skip
  clear hK3 hW3
  repeat' (first | refine ts_seq (fun K hK hW => ?_) | refine ts_reg ?_ | refine tr_nil ?_ | refine tr_ev rfl ?_ | refine use_K (by assumption) ?_ | refine tr_guard_u rfl ?_ | refine gY rfl rfl ?_ | refine gN rfl rfl ?_ | refine tr_alloc rfl ?_ | refine tr_store rfl rfl rfl rfl rfl rfl rfl ?_ | refine qT rfl rfl ?_ | refine qF rfl rfl ?_ | refine ts_nop ?_ | refine ts_block ?_ | refine ts_exit ?_ | refine ts_ret ?_ | refine th_exit ?_ | refine th_ret ?_ | refine bl_normal ?_ | refine bl_ret ?_ | refine bl_hit ?_ | refine bl_miss rfl ?_ | refine tret_of (.inr rfl) rfl ?_ | refine cA rfl (by rw [hP]; exact register_spec2 i.a) rfl ?_ | refine cA rfl (by rw [hP]; exact register_spec2 i.b) rfl ?_ | refine cA rfl (by rw [hP]; exact plain_spec i.b) rfl ?_ | refine cA rfl (by rw [hP]; exact memory_spec i.a) rfl ?_ | refine cA rfl (by rw [hP]; exact memory_spec i.b) rfl ?_ | refine cA rfl (by rw [hP]; exact reckons_spec _) rfl ?_ | refine lT (tl_eqs (by rw [hP]; exact sh_opd) (by rw [hP]; exact ag_opd) (by rw [hP]; exact eg_opd) rfl rfl rfl rfl rfl rfl) ?_ | refine lT (tl_eqb (by rw [hP]; exact ut_bool) rfl rfl) ?_ | (refine gS rfl (fun h => ?_) (fun h => ?_) <;> try simp only [bs0, beq_iff_eq] at h) | (refine ts_cond rfl (fun h => ?_) (fun h => ?_) <;> try simp only [bs0, beq_iff_eq] at h) | fail)
  all_goals refine th_norm (key3 _ _ ?_)
  all_goals (refine w_ren [(0, 0)] rfl (by rw [hp]; intro j hj; cases hj) rfl ?_ ?_ <;> repeat' (first | exact .nil | exact .f _ rfl | exact .s _ _ _ _ _ _ rfl | exact .p _ _ _ rfl | exact .rows _ _ _ | exact .iter _ _ | exact RenL.nil _ | refine RenL.cons ?_ ?_ | refine .cells _ _ _ ?_ | refine .cons _ _ _ _ rfl ?_ ?_ | refine .cons _ _ _ _ _ rfl rfl ?_ ?_ | refine .rowsE ?_ | refine .sE rfl ?_ | exact .m _ _ rfl | refine .fE rfl ?_ | exact RenO.mB _ | exact RenO.mB [] | fail))
  all_goals (refine congrArg (fun b => TV.v (.bool b)) ?_; unfold twoB)
  all_goals first | (rw [‹isReg i.a = true›, ‹isPlain i.b = true›]; rfl) | (rw [‹isReg i.a = true›, ‹isPlain i.b = false›, ‹isMem i.b = true›]; rfl) | (rw [‹isReg i.a = true›, ‹isPlain i.b = false›, ‹isMem i.b = false›, ‹isMem i.a = false›]; rfl) | (rw [‹isReg i.a = false›, ‹isMem i.a = false›]; rfl) | (rw [‹isReg i.a = true›, ‹isPlain i.b = false›, ‹isMem i.b = false›, ‹isMem i.a = true›]; rfl) | (rw [‹isReg i.a = false›, ‹isMem i.a = true›]; simp; done)
 clear hK2 hW2
 repeat' (first | refine ts_seq (fun K hK hW => ?_) | refine ts_reg ?_ | refine tr_nil ?_ | refine tr_ev rfl ?_ | refine use_K (by assumption) ?_ | refine tr_guard_u rfl ?_ | refine gY rfl rfl ?_ | refine gN rfl rfl ?_ | refine tr_alloc rfl ?_ | refine tr_store rfl rfl rfl rfl rfl rfl rfl ?_ | refine qT rfl rfl ?_ | refine qF rfl rfl ?_ | refine ts_nop ?_ | refine ts_block ?_ | refine ts_exit ?_ | refine ts_ret ?_ | refine th_exit ?_ | refine th_ret ?_ | refine bl_normal ?_ | refine bl_ret ?_ | refine bl_hit ?_ | refine bl_miss rfl ?_ | refine tret_of (.inr rfl) rfl ?_ | (refine gS rfl (fun h => ?_) (fun h => ?_) <;> try simp only [bs0, beq_iff_eq] at h) | (refine ts_cond rfl (fun h => ?_) (fun h => ?_) <;> try simp only [bs0, beq_iff_eq] at h) | fail)
 all_goals first | (refine .vb ?_; have hc : condB i = false := by (unfold condB; split <;> exact dF (by omega))
                    rw [fitsB, hc]; rfl) | refine th_norm (key2 (by unfold condB; split <;> exact dT (by omega)) _ _ ?_)
 all_goals (refine w_ren [(0, 0)] rfl (by rw [hp]; intro j hj; cases hj) rfl ?_ ?_ <;> repeat' (first | exact .nil | exact .f _ rfl | exact .s _ _ _ _ _ _ rfl | exact .p _ _ _ rfl | exact .rows _ _ _ | exact .iter _ _ | exact RenL.nil _ | refine RenL.cons ?_ ?_ | refine .cells _ _ _ ?_ | refine .cons _ _ _ _ rfl ?_ ?_ | refine .cons _ _ _ _ _ rfl rfl ?_ ?_ | refine .rowsE ?_ | refine .sE rfl ?_ | exact .m _ _ rfl | refine .fE rfl ?_ | exact RenO.mB _ | exact RenO.mB [] | fail))
end
end Go.Proofs.YtnphhelbianjpaaGreatDoor
namespace Go.Proofs.YtnphhelbianjpaaGreatDoor
set_option maxRecDepth 20000
open Go Go.Proofs.YtnphhelbianjpaaGreatDoor.V Go.Proofs

def jumpB (i : Ins) : Bool := decide (i.op = 10) || decide (i.op = 11)
def insRight (i : Ins) : Int := if fitsB i = false ∨ (jumpB i = false ∧ i.to ≠ bs []) then 4 else if jumpB i = true ∧ rightB i.to = false then 3 else 0
def noOpd : Opd := ⟨0, 0, 0, 0⟩
def readsB (i : Ins) : Bool := decide (insRight i = 0) && (isMem i.b || isMem i.a && !decide (i.op = 1))
def readsO (i : Ins) : Opd := if readsB i = true then (if isMem i.b = true then i.b else i.a) else noOpd
def writesB (i : Ins) : Bool := decide (insRight i = 0) && (isMem i.a && !decide (i.op = 7))
def writesO (i : Ins) : Opd := if writesB i = true then i.a else noOpd
def lockedB (i : Ins) : Bool := decide (insRight i = 0) && (decide (i.op = 8) || i.lock)
def partsI (i : Ins) : Int := if insRight i = 0 then (if readsB i = true ∧ writesB i = true ∧ lockedB i = false then 2 else 1) else 0
section
attribute [local irreducible] TwS TwR thenT inBlockT retT okOpd okReg isReg isMem isPlain fitsB rightB
variable {G : World → Prop}

theorem insRight_spec (i : Ins) (hs : i.to.size ≤ 1000000000000) : Pure prog Tabs 131 [.agg (cIns i)] (tI (insRight i)) := by
 refine Pure.at mixedOk F131 rfl fun C hP hG hp => goF ?_; simp only [F131, targEnv, Nat.zero_add, Nat.reduceAdd]
 repeat' (first | refine goR rfl ?_ | refine goS rfl ?_ | refine tret1 rfl ?_ | refine tretN rfl ?_ | refine gY rfl rfl ?_ | refine gN rfl rfl ?_ | refine qT rfl rfl ?_ | refine qF rfl rfl ?_ | refine cA rfl (by rw [hP, hG]; exact fits_spec i) rfl ?_ | refine cA rfl (by rw [hP, hG]; exact right_spec i.to hs) rfl ?_ | ((first | refine gS rfl (fun h => ?_) (fun h => ?_) | refine ts_cond rfl (fun h => ?_) (fun h => ?_)) <;> try simp only [bs0, beq_iff_eq] at h) | fail)
 all_goals refine .vi ?_
 all_goals simp_all [toTV, insRight, jumpB]
end
section
attribute [local irreducible] TwS TwR thenT inBlockT retT okOpd okReg isReg isMem isPlain fitsB rightB insRight
theorem reads_spec (i : Ins) (hs : i.to.size ≤ 1000000000000) : Pure prog Tabs 112 [.agg (cIns i)] (.tup [.agg (cOpd (readsO i)), tB (readsB i)]) := by
 refine Pure.at mixedOk F112 rfl fun C hP hG hp => goF ?_; simp only [F112, targEnv, Nat.zero_add, Nat.reduceAdd]
 repeat' (first | refine goR rfl ?_ | refine goS rfl ?_ | refine tret1 rfl ?_ | refine tretN rfl ?_ | refine gY rfl rfl ?_ | refine gN rfl rfl ?_ | refine qT rfl rfl ?_ | refine qF rfl rfl ?_ | refine cA rfl (by rw [hP, hG]; exact insRight_spec i hs) rfl ?_ | refine cA rfl (by rw [hP, hG]; exact memory_spec i.a) rfl ?_ | refine cA rfl (by rw [hP, hG]; exact memory_spec i.b) rfl ?_ | ((first | refine gS rfl (fun h => ?_) (fun h => ?_) | refine ts_cond rfl (fun h => ?_) (fun h => ?_)) <;> try simp only [bs0, beq_iff_eq] at h) | fail)
 all_goals refine .eqT rfl ?_
 all_goals simp_all [toTV, readsO, readsB, noOpd, cOpd]
theorem writes_spec (i : Ins) (hs : i.to.size ≤ 1000000000000) : Pure prog Tabs 113 [.agg (cIns i)] (.tup [.agg (cOpd (writesO i)), tB (writesB i)]) := by
 refine Pure.at mixedOk F113 rfl fun C hP hG hp => goF ?_; simp only [F113, targEnv, Nat.zero_add, Nat.reduceAdd]
 repeat' (first | refine goR rfl ?_ | refine goS rfl ?_ | refine tret1 rfl ?_ | refine tretN rfl ?_ | refine gY rfl rfl ?_ | refine gN rfl rfl ?_ | refine qT rfl rfl ?_ | refine qF rfl rfl ?_ | refine cA rfl (by rw [hP, hG]; exact insRight_spec i hs) rfl ?_ | refine cA rfl (by rw [hP, hG]; exact memory_spec i.a) rfl ?_ | refine cA rfl (by rw [hP, hG]; exact memory_spec i.b) rfl ?_ | ((first | refine gS rfl (fun h => ?_) (fun h => ?_) | refine ts_cond rfl (fun h => ?_) (fun h => ?_)) <;> try simp only [bs0, beq_iff_eq] at h) | fail)
 all_goals refine .eqT rfl ?_
 all_goals simp_all [toTV, writesO, writesB, noOpd, cOpd]
theorem locked_spec (i : Ins) (hs : i.to.size ≤ 1000000000000) : Pure prog Tabs 110 [.agg (cIns i)] (tB (lockedB i)) := by
 refine Pure.at mixedOk F110 rfl fun C hP hG hp => goF ?_; simp only [F110, targEnv, Nat.zero_add, Nat.reduceAdd]
 repeat' (first | refine goR rfl ?_ | refine goS rfl ?_ | refine tret1 rfl ?_ | refine tretN rfl ?_ | refine gY rfl rfl ?_ | refine gN rfl rfl ?_ | refine qT rfl rfl ?_ | refine qF rfl rfl ?_ | refine cA rfl (by rw [hP, hG]; exact insRight_spec i hs) rfl ?_ | ((first | refine gS rfl (fun h => ?_) (fun h => ?_) | refine ts_cond rfl (fun h => ?_) (fun h => ?_)) <;> try simp only [bs0, beq_iff_eq] at h) | fail)
 all_goals refine .vb ?_
 all_goals simp_all [toTV, lockedB]
attribute [local irreducible] readsB writesB lockedB readsO writesO
theorem parts_spec (i : Ins) (hs : i.to.size ≤ 1000000000000) : Pure prog Tabs 111 [.agg (cIns i)] (tI (partsI i)) := by
 refine Pure.at mixedOk F111 rfl fun C hP hG hp => goF ?_; simp only [F111, targEnv, Nat.zero_add, Nat.reduceAdd]
 repeat' (first | refine goR rfl ?_ | refine goS rfl ?_ | refine tret1 rfl ?_ | refine tretN rfl ?_ | refine gY rfl rfl ?_ | refine gN rfl rfl ?_ | refine qT rfl rfl ?_ | refine qF rfl rfl ?_ | refine cA rfl (by rw [hP, hG]; exact insRight_spec i hs) rfl ?_ | refine cA rfl (by rw [hP, hG]; exact reads_spec i hs) rfl ?_ | refine cA rfl (by rw [hP, hG]; exact writes_spec i hs) rfl ?_ | refine cA rfl (by rw [hP, hG]; exact locked_spec i hs) rfl ?_ | ((first | refine gS rfl (fun h => ?_) (fun h => ?_) | refine ts_cond rfl (fun h => ?_) (fun h => ?_)) <;> try simp only [bs0, beq_iff_eq] at h) | fail)
 all_goals refine .vi ?_
 all_goals simp_all [toTV, partsI]
theorem leads_spec (i : Ins) (hs : i.to.size ≤ 1000000000000) : Pure prog Tabs 133 [.agg (cIns i)] (.tup [tB (decide (insRight i = 0) && (!decide (i.op = 10) && !decide (i.op = 14))), tB (decide (insRight i = 0) && jumpB i)]) := by
 refine Pure.at mixedOk F133 rfl fun C hP hG hp => goF ?_; simp only [F133, targEnv, Nat.zero_add, Nat.reduceAdd]
 repeat' (first | refine goR rfl ?_ | refine goS rfl ?_ | refine tret1 rfl ?_ | refine tretN rfl ?_ | refine gY rfl rfl ?_ | refine gN rfl rfl ?_ | refine qT rfl rfl ?_ | refine qF rfl rfl ?_ | refine cA rfl (by rw [hP, hG]; exact insRight_spec i hs) rfl ?_ | ((first | refine gS rfl (fun h => ?_) (fun h => ?_) | refine ts_cond rfl (fun h => ?_) (fun h => ?_)) <;> try simp only [bs0, beq_iff_eq] at h) | fail)
 all_goals refine .eqT rfl ?_
 all_goals simp_all [toTV, jumpB]
end
end Go.Proofs.YtnphhelbianjpaaGreatDoor
namespace Go.Proofs.YtnphhelbianjpaaGreatDoor
set_option maxRecDepth 20000
open Go Go.Proofs.YtnphhelbianjpaaGreatDoor.V Go.Proofs

structure Flags where
 z : Bool
 s : Bool
 c : Bool
 o : Bool
def cFlags (f : Flags) : List TV := [tB f.z, tB f.s, tB f.c, tB f.o]
def flagsW (n : Int) (c o : Bool) : Flags := ⟨decide (n = 0), decide (n < 0), c, o⟩
def lt0 (n : Int) : Bool := decide (n < 0)
def u64 (n : Int) : Int := IntKind.u64.wrap n
def i64 (n : Int) : Int := IntKind.i64.wrap n
def andW (a b : Int) : Int := i64 (BitVec.ofInt IntKind.i64.bits a &&& BitVec.ofInt IntKind.i64.bits b).toNat
def orW (a b : Int) : Int := i64 (BitVec.ofInt IntKind.i64.bits a ||| BitVec.ofInt IntKind.i64.bits b).toNat
def xorW (a b : Int) : Int := i64 (BitVec.ofInt IntKind.i64.bits a ^^^ BitVec.ofInt IntKind.i64.bits b).toNat
def doW (op a b : Int) : Int × Flags × Bool :=
 if op = 2 then (i64 (a + b), flagsW (i64 (a + b)) (decide (u64 (i64 (a + b)) < u64 a)) ((lt0 a == lt0 b) && !(lt0 (i64 (a + b)) == lt0 a)), true)
 else if op = 3 ∨ op = 7 then (if op = 7 then a else i64 (a - b), flagsW (i64 (a - b)) (decide (u64 a < u64 b)) (!(lt0 a == lt0 b) && !(lt0 (i64 (a - b)) == lt0 a)), true)
 else if op = 4 then (andW a b, flagsW (andW a b) false false, true)
 else if op = 5 then (orW a b, flagsW (orW a b) false false, true)
 else if op = 6 then (xorW a b, flagsW (xorW a b) false false, true)
 else (0, ⟨false, false, false, false⟩, false)
theorem u64_def (n : Int) : u64 n = n % 18446744073709551616 := by
 unfold u64 IntKind.wrap
 simp [IntKind.signed, IntKind.bits]
theorem i64_def (n : Int) : i64 n = if 9223372036854775808 ≤ n % 18446744073709551616 then n % 18446744073709551616 - 18446744073709551616 else n % 18446744073709551616 := by
 unfold i64 IntKind.wrap
 simp [IntKind.signed, IntKind.bits]
theorem u64_i64 (n : Int) : u64 (i64 n) = u64 n := by rw [u64_def, u64_def, i64_def]; split <;> omega
theorem i64_u64 (n : Int) : i64 (u64 n) = i64 n := by rw [i64_def, i64_def, u64_def]; split <;> split <;> omega
theorem u64_add (a b : Int) : u64 (u64 a + u64 b) = u64 (a + b) := by simp only [u64_def]; omega
theorem u64_sub (a b : Int) : u64 (u64 a - u64 b) = u64 (a - b) := by simp only [u64_def]; omega
theorem do_fin {op a b n : Int} {p q r s : Bool} {k : Bool} {σ : TS} {x : TV} (h : doW op a b = (n, ⟨p, q, r, s⟩, k)) (hx : x = .tup [tI n, .agg [tB p, tB q, tB r, tB s], tB k]) : Fz σ x (.tup [tI (doW op a b).1, .agg (cFlags (doW op a b).2.1), tB (doW op a b).2.2]) := by
 rw [h, hx]; exact .frT rfl
theorem u64_i64' (n : Int) : IntKind.u64.wrap (IntKind.i64.wrap n) = IntKind.u64.wrap n := u64_i64 n
theorem i64_u64' (n : Int) : IntKind.i64.wrap (IntKind.u64.wrap n) = IntKind.i64.wrap n := i64_u64 n
theorem u64_add' (a b : Int) : IntKind.u64.wrap (IntKind.u64.wrap a + IntKind.u64.wrap b) = IntKind.u64.wrap (a + b) := u64_add a b
theorem u64_sub' (a b : Int) : IntKind.u64.wrap (IntKind.u64.wrap a - IntKind.u64.wrap b) = IntKind.u64.wrap (a - b) := u64_sub a b
def holdsW (c : Int) (f : Flags) : Bool :=
 if c = 1 then f.z else if c = 2 then !f.z else if c = 3 then !(f.s == f.o) else if c = 4 then !(f.s == f.o) || f.z else if c = 5 then (f.s == f.o) && !f.z else if c = 6 then (f.s == f.o)
 else if c = 7 then f.c else if c = 8 then f.c || f.z else if c = 9 then !f.c && !f.z else if c = 10 then !f.c else false
theorem ut_int : prog.underlying 3 = some (.int .i64) := by kernel_rfl
theorem ut_i64 : prog.underlying 2 = some (.int .i64) := by kernel_rfl
theorem ut_u64 : prog.underlying 172 = some (.int .u64) := by kernel_rfl
section
attribute [local irreducible] TwS TwR thenT inBlockT retT IntKind.wrap lt0
variable {G : World → Prop}
theorem flags_spec (n : Int) (c o : Bool) : Pure prog G 115 [tI n, tB c, tB o] (.agg (cFlags (flagsW n c o))) := by
 refine Pure.at mixedOk F115 rfl fun C hP hG hp => goF ?_; simp only [F115, targEnv, Nat.zero_add, Nat.reduceAdd]
 repeat' (first | refine goR rfl ?_ | refine goS rfl ?_ | refine tret1 rfl ?_ | refine tretN rfl ?_ | refine gY rfl rfl ?_ | refine gN rfl rfl ?_ | refine qT rfl rfl ?_ | refine qF rfl rfl ?_ | ((first | refine gS rfl (fun h => ?_) (fun h => ?_) | refine ts_cond rfl (fun h => ?_) (fun h => ?_)) <;> try simp only [bs0, beq_iff_eq] at h) | fail)
 exact .fr rfl
theorem holds_spec (c : Int) (f : Flags) : Pure prog G 135 [tI c, .agg (cFlags f)] (tB (holdsW c f)) := by
 refine Pure.at mixedOk F135 rfl fun C hP hG hp => goF ?_; simp only [F135, targEnv, Nat.zero_add, Nat.reduceAdd]
 repeat' (first | refine goR rfl ?_ | refine goS rfl ?_ | refine tret1 rfl ?_ | refine tretN rfl ?_ | refine gY rfl rfl ?_ | refine gN rfl rfl ?_ | refine qT rfl rfl ?_ | refine qF rfl rfl ?_ | refine lT (tl_neb (by rw [hP]; exact ut_bool) rfl rfl) ?_ | ((first | refine gS rfl (fun h => ?_) (fun h => ?_) | refine ts_cond rfl (fun h => ?_) (fun h => ?_)) <;> try simp only [bs0, beq_iff_eq] at h) | fail)
 all_goals refine .vb ?_
 all_goals simp_all [holdsW]
theorem holds_spec2 (c : Int) (f : Flags) : Pure prog G 89 [tI c, .agg (cFlags f)] (tB (holdsW c f)) := by
 refine Pure.at mixedOk F89 rfl fun C hP hG hp => goF ?_; simp only [F89, targEnv, Nat.zero_add, Nat.reduceAdd]
 repeat' (first | refine goR rfl ?_ | refine goS rfl ?_ | refine tret1 rfl ?_ | refine tretN rfl ?_ | refine gY rfl rfl ?_ | refine gN rfl rfl ?_ | refine qT rfl rfl ?_ | refine qF rfl rfl ?_ | refine lT (tl_neb (by rw [hP]; exact ut_bool) rfl rfl) ?_ | ((first | refine gS rfl (fun h => ?_) (fun h => ?_) | refine ts_cond rfl (fun h => ?_) (fun h => ?_)) <;> try simp only [bs0, beq_iff_eq] at h) | fail)
 all_goals refine .vb ?_
 all_goals simp_all [holdsW]
theorem do_spec (op a b : Int) : Pure prog G 75 [tI op, tI a, tI b] (.tup [tI (doW op a b).1, .agg (cFlags (doW op a b).2.1), tB (doW op a b).2.2]) := by
 refine Pure.at mixedOk F75 rfl fun C hP hG hp => goF ?_; simp only [F75, targEnv, Nat.zero_add, Nat.reduceAdd]
 repeat' (first | refine goR rfl ?_ | refine goS rfl ?_ | refine tret1 rfl ?_ | refine tretN rfl ?_ | refine gY rfl rfl ?_ | refine gN rfl rfl ?_ | refine qT rfl rfl ?_ | refine qF rfl rfl ?_ | refine lT (tl_neb (by rw [hP]; exact ut_bool) rfl rfl) ?_ | refine lT (tl_conv (by rw [hP]; exact ut_i64) (by rw [hP]; exact ut_u64) rfl) ?_ | refine lT (tl_conv (by rw [hP]; exact ut_u64) (by rw [hP]; exact ut_i64) rfl) ?_ | refine cA rfl (by rw [hP]; exact flags_spec _ _ _) rfl ?_ | ((first | refine gS rfl (fun h => ?_) (fun h => ?_) | refine ts_cond rfl (fun h => ?_) (fun h => ?_)) <;> try simp only [bs0, beq_iff_eq] at h) | fail)
 all_goals refine do_fin ?_ rfl
 all_goals simp only [doW, u64, i64, lt0, flagsW, u64_add', u64_sub', i64_u64', u64_i64', andW, orW, xorW]
 all_goals (cases hx : decide (a < 0) <;> cases hy : decide (b < 0) <;> simp_all)
 all_goals ((repeat' apply And.intro) <;> rfl)
theorem do_spec2 (op a b : Int) : Pure prog G 82 [tI op, tI a, tI b] (.tup [tI (doW op a b).1, .agg (cFlags (doW op a b).2.1), tB (doW op a b).2.2]) := by
 refine Pure.at mixedOk F82 rfl fun C hP hG hp => goF ?_; simp only [F82, targEnv, Nat.zero_add, Nat.reduceAdd]
 repeat' (first | refine goR rfl ?_ | refine goS rfl ?_ | refine tret1 rfl ?_ | refine tretN rfl ?_ | refine gY rfl rfl ?_ | refine gN rfl rfl ?_ | refine qT rfl rfl ?_ | refine qF rfl rfl ?_ | refine lT (tl_eqb (by rw [hP]; exact ut_bool) rfl rfl) ?_ | refine lT (tl_neb (by rw [hP]; exact ut_bool) rfl rfl) ?_ | refine lT (tl_conv (by rw [hP]; exact ut_i64) (by rw [hP]; exact ut_u64) rfl) ?_ | ((first | refine gS rfl (fun h => ?_) (fun h => ?_) | refine ts_cond rfl (fun h => ?_) (fun h => ?_)) <;> try simp only [bs0, beq_iff_eq] at h) | fail)
 all_goals refine do_fin ?_ rfl
 all_goals simp only [doW, u64, i64, lt0, flagsW, u64_i64', andW, orW, xorW]
 all_goals (cases hx : decide (a < 0) <;> cases hy : decide (b < 0) <;> simp_all)
 all_goals ((repeat' apply And.intro) <;> rfl)
end
end Go.Proofs.YtnphhelbianjpaaGreatDoor
