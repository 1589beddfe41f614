/-
  Walks of functions of the program, and what the laws need of them.
-/
import Derived.Test.YtjaipefmifbghaaGreatDoorRPC
import Derived.Test.YtjaipefmifbghaaGreatDoorRPG
import Derived.Test.YtjaipefmifbghaaGreatDoorRPK
set_option linter.all false
set_option linter.unusedSimpArgs false
set_option linter.unusedVariables false
set_option linter.unnecessarySimpa false
namespace Go.Proofs.YtjaipefmifbghaaGreatDoor
set_option maxRecDepth 20000
open Go Go.Proofs.YtjaipefmifbghaaGreatDoor.V Go.Proofs
def longB (l : List ByteArray) : Bool := l.any fun s => decide (60 < s.size)
def greatI (i : Ins) : Bool := if 6 < i.labels.length ∨ 60 < i.to.size then true else longB i.labels
def greatT (t : List Ins) : Bool := if 12 < t.length then true else t.any greatI
def symG (s : Sym) : Bool := decide (60 < s.name.size ∨ 66 < s.init.length)
def greatP (p : Prg) : Bool := if 66 < p.syms.length ∨ 66 < p.threads.length then true else if p.syms.any symG then true else p.threads.any greatT
section
attribute [local irreducible] TwS TwR thenT inBlockT retT
variable {G : World → Prop}
theorem greatI_spec (i : Ins) : Pure prog G 87 [.agg (cIns i)] (tB (greatI i)) := by
 refine Pure.at mixedOk F87 rfl fun C hP hG hp => goF ?_; simp only [F87, targEnv, Nat.zero_add, Nat.reduceAdd]
 have hl : (i.labels.map fun s => [tS s]).length = i.labels.length := lM ..
 by_cases hb : 6 < i.labels.length ∨ 60 < i.to.size
 ·rw [greatI, if_pos hb]
  repeat' (first | refine goR rfl ?_ | refine goS rfl ?_ | refine tret1 rfl ?_ | refine tretN rfl ?_ | refine gY rfl rfl ?_ | refine gN rfl rfl ?_ | refine qT rfl rfl ?_ | refine qF rfl rfl ?_ | ((first | refine gS rfl (fun h => ?_) (fun h => ?_) | refine ts_cond rfl (fun h => ?_) (fun h => ?_)) <;> (try simp only [bs0, beq_iff_eq] at h) <;> try (exfalso; omega; done)) | fail)
  all_goals exact .fr rfl
 rw [greatI, if_neg hb]
 repeat' (first | refine goR rfl ?_ | refine goS rfl ?_ | refine tret1 rfl ?_ | refine tretN rfl ?_ | refine gY rfl rfl ?_ | refine gN rfl rfl ?_ | refine qT rfl rfl ?_ | refine qF rfl rfl ?_ | ((first | refine gS rfl (fun h => ?_) (fun h => ?_) | refine ts_cond rfl (fun h => ?_) (fun h => ?_)) <;> (try simp only [bs0, beq_iff_eq] at h) <;> try (exfalso; omega; done)) | fail)
 refine loopS (fun m env σ => ∃ a b, i.labels = a ++ b ∧ m = b.length ∧ longB i.labels = longB b ∧ env = [(1, .p 0 0), (3, tI a.length)] ∧ σ = ⟨[(0, .cells (cIns i) 55)], 1⟩) i.labels.length ?_ ⟨[], i.labels, rfl, rfl, rfl, rfl, rfl⟩ ?_
 ·(refine w_ren [(0, 0)] rfl (by rw [hp]; intro j hj; cases hj) rfl ?_ ?_ <;> repeat' (first | exact .nil | exact .f _ rfl | exact .s _ _ _ _ _ _ rfl | exact .p _ _ _ rfl | exact .rows _ _ _ | exact .iter _ _ | exact RenL.nil _ | refine RenL.cons ?_ ?_ | refine .cells _ _ _ ?_ | refine .cons _ _ _ _ rfl ?_ ?_ | refine .cons _ _ _ _ _ rfl rfl ?_ ?_ | refine .rowsE ?_ | refine .sE rfl ?_ | exact .m _ _ rfl | refine .fE rfl ?_ | exact RenO.mB _ | exact RenO.mB [] | fail))
 rintro m env σ ⟨a, b, e, rfl, hI, rfl, rfl⟩
 have hla : i.labels.length = a.length + b.length := by rw [e, lA]
 cases b with
 | nil =>
  rw [List.length_nil] at hla
  repeat' (first | refine goR rfl ?_ | refine goS rfl ?_ | refine tret1 rfl ?_ | refine tretN rfl ?_ | refine gY rfl rfl ?_ | refine gN rfl rfl ?_ | refine qT rfl rfl ?_ | refine qF rfl rfl ?_ | refine qF rfl (dF (by rw [lM]; omega)) ?_ | fail)
  rw [hI]
  exact .fr rfl
 | cons x b =>
  have hx : i.labels[a.length]? = some x := by rw [e]; exact ix
  simp only [List.length_cons] at hla
  simp only [longB, List.any_cons] at hI
  repeat' (first | refine goR rfl ?_ | refine goS rfl ?_ | refine tret1 rfl ?_ | refine tretN rfl ?_ | refine gY rfl rfl ?_ | refine gN rfl rfl ?_ | refine qT rfl rfl ?_ | refine qF rfl rfl ?_ | refine qT rfl (dT (by rw [lM]; omega)) ?_ | refine lT (tl_ixm rfl rfl rfl hx) ?_ | ((first | refine gS rfl (fun h => ?_) (fun h => ?_) | refine ts_cond rfl (fun h => ?_) (fun h => ?_)) <;> try simp only [bs0, beq_iff_eq] at h) | fail)
  ·have : longB i.labels = true := by rw [longB, hI, dT (by omega), Bool.true_or]
   rw [this]
   exact .fr rfl
  ·refine again (m' := b.length) (Nat.lt_succ_self _) ?_ ⟨a ++ [x], b, by rw [e]; simp, rfl, by rw [longB, hI, dF (by omega), Bool.false_or]; rfl, rfl, rfl⟩
   (refine w_ren [(0, 0)] rfl (by rw [hp]; intro j hj; cases hj) rfl ?_ ?_ <;> repeat' (first | exact .nil | exact .f _ rfl | exact .s _ _ _ _ _ _ rfl | exact .p _ _ _ rfl | exact .rows _ _ _ | exact .iter _ _ | exact RenL.nil _ | refine RenL.cons ?_ ?_ | refine .cells _ _ _ ?_ | refine .cons _ _ _ _ rfl ?_ ?_ | refine .cons _ _ _ _ _ rfl rfl ?_ ?_ | refine .rowsE ?_ | refine .sE rfl ?_ | exact .m _ _ rfl | refine .fE rfl ?_ | exact RenO.mB _ | exact RenO.mB [] | fail))
   all_goals first | rfl | (rw [w64 (by omega), lA, List.length_singleton]; rfl) | (rw [lA]; rfl) | (rw [List.map_append]; rfl) | rw [lM] | rw [List.append_nil] | skip
theorem greatT_spec (t : List Ins) : Pure prog G 54 [.agg (cTh t)] (tB (greatT t)) := by
 refine Pure.at mixedOk F54 rfl fun C hP hG hp => goF ?_; simp only [F54, targEnv, Nat.zero_add, Nat.reduceAdd]
 have hl : (t.map cIns).length = t.length := lM ..
 by_cases hb : 12 < t.length
 ·rw [greatT, if_pos hb]
  repeat' (first | refine goR rfl ?_ | refine goS rfl ?_ | refine tret1 rfl ?_ | refine tretN rfl ?_ | refine gY rfl rfl ?_ | refine gN rfl rfl ?_ | refine qT rfl rfl ?_ | refine qF rfl rfl ?_ | ((first | refine gS rfl (fun h => ?_) (fun h => ?_) | refine ts_cond rfl (fun h => ?_) (fun h => ?_)) <;> (try simp only [bs0, beq_iff_eq] at h) <;> try (exfalso; omega; done)) | fail)
  all_goals exact .fr rfl
 rw [greatT, if_neg hb]
 repeat' (first | refine goR rfl ?_ | refine goS rfl ?_ | refine tret1 rfl ?_ | refine tretN rfl ?_ | refine gY rfl rfl ?_ | refine gN rfl rfl ?_ | refine qT rfl rfl ?_ | refine qF rfl rfl ?_ | ((first | refine gS rfl (fun h => ?_) (fun h => ?_) | refine ts_cond rfl (fun h => ?_) (fun h => ?_)) <;> (try simp only [bs0, beq_iff_eq] at h) <;> try (exfalso; omega; done)) | fail)
 refine loopS (fun m env σ => ∃ a b, t = a ++ b ∧ m = b.length ∧ t.any greatI = b.any greatI ∧ env = [(1, .p 0 0), (3, tI a.length)] ∧ σ = ⟨[(0, .cells (cTh t) 50)], 1⟩) t.length ?_ ⟨[], t, rfl, rfl, rfl, rfl, rfl⟩ ?_
 ·(refine w_ren [(0, 0)] rfl (by rw [hp]; intro j hj; cases hj) rfl ?_ ?_ <;> repeat' (first | exact .nil | exact .f _ rfl | exact .s _ _ _ _ _ _ rfl | exact .p _ _ _ rfl | exact .rows _ _ _ | exact .iter _ _ | exact RenL.nil _ | refine RenL.cons ?_ ?_ | refine .cells _ _ _ ?_ | refine .cons _ _ _ _ rfl ?_ ?_ | refine .cons _ _ _ _ _ rfl rfl ?_ ?_ | refine .rowsE ?_ | refine .sE rfl ?_ | exact .m _ _ rfl | refine .fE rfl ?_ | exact RenO.mB _ | exact RenO.mB [] | fail))
 rintro m env σ ⟨a, b, e, rfl, hI, rfl, rfl⟩
 have hla : t.length = a.length + b.length := by rw [e, lA]
 cases b with
 | nil =>
  rw [List.length_nil] at hla
  repeat' (first | refine goR rfl ?_ | refine goS rfl ?_ | refine tret1 rfl ?_ | refine tretN rfl ?_ | refine gY rfl rfl ?_ | refine gN rfl rfl ?_ | refine qT rfl rfl ?_ | refine qF rfl rfl ?_ | refine qF rfl (dF (by rw [lM]; omega)) ?_ | fail)
  rw [hI]
  exact .fr rfl
 | cons x b =>
  have hx : t[a.length]? = some x := by rw [e]; exact ix
  simp only [List.length_cons] at hla
  simp only [List.any_cons] at hI
  obtain ⟨g, hg⟩ : ∃ g, g = greatI x := ⟨_, rfl⟩
  have c := fun G => greatI_spec (G := G) x
  rw [← hg] at hI c
  cases g
  ·repeat' (first | refine goR rfl ?_ | refine goS rfl ?_ | refine tret1 rfl ?_ | refine tretN rfl ?_ | refine gY rfl rfl ?_ | refine gN rfl rfl ?_ | refine qT rfl rfl ?_ | refine qF rfl rfl ?_ | refine qT rfl (dT (by rw [lM]; omega)) ?_ | refine lT (tl_ixm rfl rfl rfl hx) ?_ | refine cA rfl (by rw [hP]; exact c _) rfl ?_ | fail)
   refine again (m' := b.length) (Nat.lt_succ_self _) ?_ ⟨a ++ [x], b, by rw [e]; simp, rfl, by rw [hI, Bool.false_or], rfl, rfl⟩
   (refine w_ren [(0, 0)] rfl (by rw [hp]; intro j hj; cases hj) rfl ?_ ?_ <;> repeat' (first | exact .nil | exact .f _ rfl | exact .s _ _ _ _ _ _ rfl | exact .p _ _ _ rfl | exact .rows _ _ _ | exact .iter _ _ | exact RenL.nil _ | refine RenL.cons ?_ ?_ | refine .cells _ _ _ ?_ | refine .cons _ _ _ _ rfl ?_ ?_ | refine .cons _ _ _ _ _ rfl rfl ?_ ?_ | refine .rowsE ?_ | refine .sE rfl ?_ | exact .m _ _ rfl | refine .fE rfl ?_ | exact RenO.mB _ | exact RenO.mB [] | fail))
   all_goals first | rfl | (rw [w64 (by omega), lA, List.length_singleton]; rfl) | (rw [lA]; rfl) | (rw [List.map_append]; rfl) | rw [lM] | rw [List.append_nil] | skip
  ·repeat' (first | refine goR rfl ?_ | refine goS rfl ?_ | refine tret1 rfl ?_ | refine tretN rfl ?_ | refine gY rfl rfl ?_ | refine gN rfl rfl ?_ | refine qT rfl rfl ?_ | refine qF rfl rfl ?_ | refine qT rfl (dT (by rw [lM]; omega)) ?_ | refine lT (tl_ixm rfl rfl rfl hx) ?_ | refine cA rfl (by rw [hP]; exact c _) rfl ?_ | fail)
   rw [hI, Bool.true_or]
   exact .fr rfl
theorem great_spec (p : Prg) : Pure prog G 19 [.agg (cPrg p)] (tB (greatP p)) := by
 refine Pure.at mixedOk F19 rfl fun C hP hG hp => goF ?_; simp only [F19, targEnv, Nat.zero_add, Nat.reduceAdd]
 have hl : (p.syms.map cSym).length = p.syms.length := lM ..
 have hl2 : (p.threads.map cTh).length = p.threads.length := lM ..
 by_cases hb : 66 < p.syms.length ∨ 66 < p.threads.length
 ·rw [greatP, if_pos hb]
  repeat' (first | refine goR rfl ?_ | refine goS rfl ?_ | refine tret1 rfl ?_ | refine tretN rfl ?_ | refine gY rfl rfl ?_ | refine gN rfl rfl ?_ | refine qT rfl rfl ?_ | refine qF rfl rfl ?_ | ((first | refine gS rfl (fun h => ?_) (fun h => ?_) | refine ts_cond rfl (fun h => ?_) (fun h => ?_)) <;> (try simp only [bs0, beq_iff_eq] at h) <;> try (exfalso; omega; done)) | fail)
  all_goals exact .fr rfl
 rw [greatP, if_neg hb]
 repeat' (first | refine goR rfl ?_ | refine goS rfl ?_ | refine tret1 rfl ?_ | refine tretN rfl ?_ | refine gY rfl rfl ?_ | refine gN rfl rfl ?_ | refine qT rfl rfl ?_ | refine qF rfl rfl ?_ | ((first | refine gS rfl (fun h => ?_) (fun h => ?_) | refine ts_cond rfl (fun h => ?_) (fun h => ?_)) <;> (try simp only [bs0, beq_iff_eq] at h) <;> try (exfalso; omega; done)) | fail)
 refine loopS (fun m env σ => ∃ a b, p.syms = a ++ b ∧ m = b.length ∧ p.syms.any symG = b.any symG ∧ env = [(1, .p 0 0), (3, tI a.length)] ∧ σ = ⟨[(0, .cells (cPrg p) 27)], 1⟩) p.syms.length ?_ ⟨[], p.syms, rfl, rfl, rfl, rfl, rfl⟩ ?_
 ·(refine w_ren [(0, 0)] rfl (by rw [hp]; intro j hj; cases hj) rfl ?_ ?_ <;> repeat' (first | exact .nil | exact .f _ rfl | exact .s _ _ _ _ _ _ rfl | exact .p _ _ _ rfl | exact .rows _ _ _ | exact .iter _ _ | exact RenL.nil _ | refine RenL.cons ?_ ?_ | refine .cells _ _ _ ?_ | refine .cons _ _ _ _ rfl ?_ ?_ | refine .cons _ _ _ _ _ rfl rfl ?_ ?_ | refine .rowsE ?_ | refine .sE rfl ?_ | exact .m _ _ rfl | refine .fE rfl ?_ | exact RenO.mB _ | exact RenO.mB [] | fail))
 rintro m env σ ⟨a, b, e, rfl, hI, rfl, rfl⟩
 have hla : p.syms.length = a.length + b.length := by rw [e, lA]
 cases b with
 | cons x b =>
  have hx : p.syms[a.length]? = some x := by rw [e]; exact ix
  simp only [List.length_cons] at hla
  simp only [List.any_cons] at hI
  have hxi : (x.init.map fun n => [tI n]).length = x.init.length := lM ..
  by_cases hs : 60 < x.name.size ∨ 66 < x.init.length
  ·have : symG x = true := dT hs
   rw [this, Bool.true_or] at hI
   rw [if_pos hI]
   repeat' (first | refine goR rfl ?_ | refine goS rfl ?_ | refine tret1 rfl ?_ | refine tretN rfl ?_ | refine gY rfl rfl ?_ | refine gN rfl rfl ?_ | refine qT rfl rfl ?_ | refine qF rfl rfl ?_ | refine qT rfl (dT (by rw [lM]; omega)) ?_ | refine lT (tl_ixm rfl rfl rfl hx) ?_ | ((first | refine gS rfl (fun h => ?_) (fun h => ?_) | refine ts_cond rfl (fun h => ?_) (fun h => ?_)) <;> (try simp only [bs0, beq_iff_eq] at h) <;> try (exfalso; omega; done)) | fail)
   all_goals exact .fr rfl
  ·have : symG x = false := dF hs
   rw [this, Bool.false_or] at hI
   repeat' (first | refine goR rfl ?_ | refine goS rfl ?_ | refine tret1 rfl ?_ | refine tretN rfl ?_ | refine gY rfl rfl ?_ | refine gN rfl rfl ?_ | refine qT rfl rfl ?_ | refine qF rfl rfl ?_ | refine qT rfl (dT (by rw [lM]; omega)) ?_ | refine lT (tl_ixm rfl rfl rfl hx) ?_ | ((first | refine gS rfl (fun h => ?_) (fun h => ?_) | refine ts_cond rfl (fun h => ?_) (fun h => ?_)) <;> (try simp only [bs0, beq_iff_eq] at h) <;> try (exfalso; omega; done)) | fail)
   refine again (m' := b.length) (Nat.lt_succ_self _) ?_ ⟨a ++ [x], b, by rw [e]; simp, rfl, hI, rfl, rfl⟩
   (refine w_ren [(0, 0)] rfl (by rw [hp]; intro j hj; cases hj) rfl ?_ ?_ <;> repeat' (first | exact .nil | exact .f _ rfl | exact .s _ _ _ _ _ _ rfl | exact .p _ _ _ rfl | exact .rows _ _ _ | exact .iter _ _ | exact RenL.nil _ | refine RenL.cons ?_ ?_ | refine .cells _ _ _ ?_ | refine .cons _ _ _ _ rfl ?_ ?_ | refine .cons _ _ _ _ _ rfl rfl ?_ ?_ | refine .rowsE ?_ | refine .sE rfl ?_ | exact .m _ _ rfl | refine .fE rfl ?_ | exact RenO.mB _ | exact RenO.mB [] | fail))
   all_goals first | rfl | (rw [w64 (by omega), lA, List.length_singleton]; rfl) | (rw [lA]; rfl) | (rw [List.map_append]; rfl) | rw [lM] | rw [List.append_nil] | skip
 | nil =>
  rw [List.length_nil] at hla
  rw [List.any_nil] at hI
  rw [if_neg (by rw [hI]; decide)]
  repeat' (first | refine goR rfl ?_ | refine goS rfl ?_ | refine tret1 rfl ?_ | refine tretN rfl ?_ | refine gY rfl rfl ?_ | refine gN rfl rfl ?_ | refine qT rfl rfl ?_ | refine qF rfl rfl ?_ | refine qF rfl (dF (by rw [lM]; omega)) ?_ | fail)
  refine loopS (fun m env σ => ∃ a b, p.threads = a ++ b ∧ m = b.length ∧ p.threads.any greatT = b.any greatT ∧ env = [(1, .p 0 0), (4, tI a.length)] ∧ σ = ⟨[(0, .cells (cPrg p) 27)], 1⟩) p.threads.length ?_ ⟨[], p.threads, rfl, rfl, rfl, rfl, rfl⟩ ?_
  ·(refine w_ren [(0, 0)] rfl (by rw [hp]; intro j hj; cases hj) rfl ?_ ?_ <;> repeat' (first | exact .nil | exact .f _ rfl | exact .s _ _ _ _ _ _ rfl | exact .p _ _ _ rfl | exact .rows _ _ _ | exact .iter _ _ | exact RenL.nil _ | refine RenL.cons ?_ ?_ | refine .cells _ _ _ ?_ | refine .cons _ _ _ _ rfl ?_ ?_ | refine .cons _ _ _ _ _ rfl rfl ?_ ?_ | refine .rowsE ?_ | refine .sE rfl ?_ | exact .m _ _ rfl | refine .fE rfl ?_ | exact RenO.mB _ | exact RenO.mB [] | fail))
  rintro m env σ ⟨a, b, e, rfl, hI, rfl, rfl⟩
  have hla : p.threads.length = a.length + b.length := by rw [e, lA]
  cases b with
  | nil =>
   rw [List.length_nil] at hla
   repeat' (first | refine goR rfl ?_ | refine goS rfl ?_ | refine tret1 rfl ?_ | refine tretN rfl ?_ | refine gY rfl rfl ?_ | refine gN rfl rfl ?_ | refine qT rfl rfl ?_ | refine qF rfl rfl ?_ | refine qF rfl (dF (by rw [lM]; omega)) ?_ | fail)
   rw [hI]
   exact .fr rfl
  | cons x b =>
   have hx : p.threads[a.length]? = some x := by rw [e]; exact ix
   simp only [List.length_cons] at hla
   simp only [List.any_cons] at hI
   obtain ⟨g, hg⟩ : ∃ g, g = greatT x := ⟨_, rfl⟩
   have c := fun G => greatT_spec (G := G) x
   rw [← hg] at hI c
   cases g
   ·repeat' (first | refine goR rfl ?_ | refine goS rfl ?_ | refine tret1 rfl ?_ | refine tretN rfl ?_ | refine gY rfl rfl ?_ | refine gN rfl rfl ?_ | refine qT rfl rfl ?_ | refine qF rfl rfl ?_ | refine qT rfl (dT (by rw [lM]; omega)) ?_ | refine lT (tl_ixm rfl rfl rfl hx) ?_ | refine cA rfl (by rw [hP]; exact c _) rfl ?_ | fail)
    refine again (m' := b.length) (Nat.lt_succ_self _) ?_ ⟨a ++ [x], b, by rw [e]; simp, rfl, by rw [hI, Bool.false_or], rfl, rfl⟩
    (refine w_ren [(0, 0)] rfl (by rw [hp]; intro j hj; cases hj) rfl ?_ ?_ <;> repeat' (first | exact .nil | exact .f _ rfl | exact .s _ _ _ _ _ _ rfl | exact .p _ _ _ rfl | exact .rows _ _ _ | exact .iter _ _ | exact RenL.nil _ | refine RenL.cons ?_ ?_ | refine .cells _ _ _ ?_ | refine .cons _ _ _ _ rfl ?_ ?_ | refine .cons _ _ _ _ _ rfl rfl ?_ ?_ | refine .rowsE ?_ | refine .sE rfl ?_ | exact .m _ _ rfl | refine .fE rfl ?_ | exact RenO.mB _ | exact RenO.mB [] | fail))
    all_goals first | rfl | (rw [w64 (by omega), lA, List.length_singleton]; rfl) | (rw [lA]; rfl) | (rw [List.map_append]; rfl) | rw [lM] | rw [List.append_nil] | skip
   ·repeat' (first | refine goR rfl ?_ | refine goS rfl ?_ | refine tret1 rfl ?_ | refine tretN rfl ?_ | refine gY rfl rfl ?_ | refine gN rfl rfl ?_ | refine qT rfl rfl ?_ | refine qF rfl rfl ?_ | refine qT rfl (dT (by rw [lM]; omega)) ?_ | refine lT (tl_ixm rfl rfl rfl hx) ?_ | refine cA rfl (by rw [hP]; exact c _) rfl ?_ | fail)
    rw [hI, Bool.true_or]
    exact .fr rfl
end
theorem any_no {α : Type} {l : List α} {f : α → Bool} (h : l.any f = false) : ∀ x ∈ l, f x = false := fun x hx => by
 cases hf : f x with
 | false => rfl
 | true => exact absurd (List.any_eq_true.mpr ⟨x, hx, hf⟩) (by rw [h]; decide)
theorem labs_len : ∀ {t : List Ins} {n : Nat}, (∀ i ∈ t, i.labels.length ≤ n) → (allLabs t).length ≤ t.length * n
 | [], _, _ => Nat.zero_le _
 | i :: t, n, h => by
  have h1 := h i (List.mem_cons_self ..)
  have h2 := labs_len (t := t) fun j hj => h j (List.mem_cons_of_mem _ hj)
  simp only [allLabs, List.flatMap_cons, lA, List.length_cons] at h2 ⊢
  rw [Nat.add_mul, Nat.one_mul]
  omega
theorem great_ok {p : Prg} (h : greatP p = false) : okP p := by
 unfold greatP at h
 split at h
 ·cases h
 rename_i h1
 split at h
 ·cases h
 rename_i h2
 have h2 := any_no (Bool.eq_false_iff.mpr h2)
 have h3 := any_no h
 refine ⟨by omega, fun s hs => ?_, by omega, fun t ht => ?_⟩
 ·have := of_decide_eq_false (h2 s hs)
  omega
 ·have h4 := h3 t ht
  unfold greatT at h4
  split at h4
  ·cases h4
  have h5 := any_no h4
  have h6 : ∀ i ∈ t, ¬ (6 < i.labels.length ∨ 60 < i.to.size) ∧ longB i.labels = false := fun i hi => by
   have h7 := h5 i hi
   unfold greatI at h7
   split at h7
   ·cases h7
   ·exact ⟨‹_›, h7⟩
  have h8 := labs_len (n := 6) fun i hi => by have := (h6 i hi).1; omega
  refine ⟨⟨by omega, by omega⟩, fun i hi => ?_⟩
  obtain ⟨h9, h10⟩ := h6 i hi
  refine ⟨by omega, by omega, fun l hl => ?_⟩
  have := of_decide_eq_false (any_no h10 l hl)
  omega
end Go.Proofs.YtjaipefmifbghaaGreatDoor
namespace Go.Proofs.YtjaipefmifbghaaGreatDoor
set_option maxRecDepth 20000
open Go Go.Proofs.YtjaipefmifbghaaGreatDoor.V Go.Proofs
theorem st_progP : (prog.underlying 27).bind stTys = some [24, 25] := by kernel_rfl
theorem st_symP : (prog.underlying 76).bind stTys = some [9, 3, 31] := by kernel_rfl
theorem st_threadP : (prog.underlying 50).bind stTys = some [48] := by kernel_rfl
theorem st_insP : (prog.underlying 55).bind stTys = some [3, 4, 3, 52, 52, 9, 53] := by kernel_rfl
theorem st_opdP : (prog.underlying 52).bind stTys = some [3, 3, 3, 2] := by kernel_rfl
theorem un_intP : prog.underlying 3 = some (.int .i64) := by kernel_rfl
theorem un_int64P : prog.underlying 2 = some (.int .i64) := by kernel_rfl
theorem un_boolP : prog.underlying 4 = some .bool := by kernel_rfl
theorem un_stringP : prog.underlying 9 = some .string := by kernel_rfl
theorem un_symsP : prog.underlying 24 = some (.slice 76) := by kernel_rfl
theorem un_thsP : prog.underlying 25 = some (.slice 50) := by kernel_rfl
theorem un_inssP : prog.underlying 48 = some (.slice 55) := by kernel_rfl
theorem un_i64sP : prog.underlying 31 = some (.slice 2) := by kernel_rfl
theorem un_strsP : prog.underlying 53 = some (.slice 9) := by kernel_rfl
theorem ce_symP : prog.cellsOf 76 = 3 := by kernel_rfl
theorem ce_thP : prog.cellsOf 50 = 1 := by kernel_rfl
theorem ce_insP : prog.cellsOf 55 = 13 := by kernel_rfl
theorem ce_i64P : prog.cellsOf 2 = 1 := by kernel_rfl
theorem ce_strP : prog.cellsOf 9 = 1 := by kernel_rfl
theorem opd_tyP {d : Nat} {cs : List TV} (h : TyL prog (d + 2) 52 cs) : ∃ o : Opd, cs = cOpd o := by
 obtain ⟨xs, rfl, k⟩ := tl_st st_opdP h
 cases k with | cons g0 k =>
 cases k with | cons g1 k =>
 cases k with | cons g2 k =>
 cases k with | cons g3 k =>
 cases k
 obtain ⟨a0, rfl, _⟩ := tl_int un_intP g0
 obtain ⟨a1, rfl, _⟩ := tl_int un_intP g1
 obtain ⟨a2, rfl, _⟩ := tl_int un_intP g2
 obtain ⟨a3, rfl, _⟩ := tl_int un_int64P g3
 exact ⟨⟨a0, a1, a2, a3⟩, rfl⟩
theorem ins_tyP {d : Nat} {cs : List TV} (h : TyL prog (d + 3) 55 cs) : ∃ i : Ins, cs = cIns i := by
 obtain ⟨xs, rfl, k⟩ := tl_st st_insP h
 cases k with | cons g0 k =>
 cases k with | cons g1 k =>
 cases k with | cons g2 k =>
 cases k with | cons g3 k =>
 cases k with | cons g4 k =>
 cases k with | cons g5 k =>
 cases k with | cons g6 k =>
 cases k
 obtain ⟨a0, rfl, _⟩ := tl_int un_intP g0
 obtain ⟨a1, rfl⟩ := tl_bool un_boolP g1
 obtain ⟨a2, rfl, _⟩ := tl_int un_intP g2
 obtain ⟨a3, rfl⟩ := opd_tyP g3
 obtain ⟨a4, rfl⟩ := opd_tyP g4
 obtain ⟨a5, rfl, _⟩ := tl_str un_stringP g5
 obtain ⟨xs, rfl, k⟩ := tl_sli un_strsP ce_strP g6
 obtain ⟨l, rfl⟩ := map_of' (c := fun s => [tS s]) fun x hx => let ⟨s, e, _⟩ := tl_str un_stringP (k x hx); ⟨s, e⟩
 exact ⟨⟨a0, a1, a2, a3, a4, a5, l⟩, rfl⟩
theorem sym_tyP {d : Nat} {cs : List TV} (h : TyL prog (d + 3) 76 cs) : ∃ i : Sym, cs = cSym i := by
 obtain ⟨xs, rfl, k⟩ := tl_st st_symP h
 cases k with | cons g0 k =>
 cases k with | cons g1 k =>
 cases k with | cons g2 k =>
 cases k
 obtain ⟨a0, rfl, _⟩ := tl_str un_stringP g0
 obtain ⟨a1, rfl, _⟩ := tl_int un_intP g1
 obtain ⟨xs, rfl, k⟩ := tl_sli un_i64sP ce_i64P g2
 obtain ⟨l, rfl⟩ := map_of' (c := fun s => [tI s]) fun x hx => let ⟨s, e, _⟩ := tl_int un_int64P (k x hx); ⟨s, e⟩
 exact ⟨⟨a0, a1, l⟩, rfl⟩
theorem th_tyP {d : Nat} {cs : List TV} (h : TyL prog (d + 5) 50 cs) : ∃ t : List Ins, cs = cTh t := by
 obtain ⟨xs, rfl, k⟩ := tl_st st_threadP h
 cases k with | cons g0 k =>
 cases k
 obtain ⟨xs, rfl, k⟩ := tl_sli un_inssP ce_insP g0
 obtain ⟨l, rfl⟩ := map_of' (c := cIns) fun x hx => ins_tyP (k x hx)
 exact ⟨l, rfl⟩
theorem prg_tyP {d : Nat} {x : TV} (h : TyV prog (d + 7) x 27) : ∃ p : Prg, x = .agg (cPrg p) := by
 obtain ⟨cs, rfl, m⟩ := tv_agg st_progP h
 obtain ⟨xs, rfl, k⟩ := tl_st st_progP m
 cases k with | cons g0 k =>
 cases k with | cons g1 k =>
 cases k
 obtain ⟨xs, rfl, k⟩ := tl_sli un_symsP ce_symP g0
 obtain ⟨l, rfl⟩ := map_of' (c := cSym) fun x hx => sym_tyP (k x hx)
 obtain ⟨xs, rfl, k⟩ := tl_sli un_thsP ce_thP g1
 obtain ⟨t, rfl⟩ := map_of' (c := cTh) fun x hx => th_tyP (k x hx)
 exact ⟨⟨l, t⟩, rfl⟩
end Go.Proofs.YtjaipefmifbghaaGreatDoor
namespace Go.Proofs.YtjaipefmifbghaaGreatDoor
set_option maxRecDepth 20000
open Go Go.Proofs.YtjaipefmifbghaaGreatDoor.V Go.Proofs
section
attribute [local irreducible] TwS TwR thenT inBlockT retT nextW localW loadedW swapW Rg.push Rg.pop
variable {G : World → Prop}
end
end Go.Proofs.YtjaipefmifbghaaGreatDoor
namespace Go.Proofs.YtjaipefmifbghaaGreatDoor
set_option maxRecDepth 20000
open Go Go.Proofs.YtjaipefmifbghaaGreatDoor.V Go.Proofs
def zSt : State := ⟨[], [], [], 0⟩
section
attribute [local irreducible] TwS TwR thenT inBlockT retT nextW localW loadedW swapW Rg.push Rg.pop
variable {G : World → Prop}
end
end Go.Proofs.YtjaipefmifbghaaGreatDoor
namespace Go.Proofs.YtjaipefmifbghaaGreatDoor
set_option maxRecDepth 20000
open Go Go.Proofs.YtjaipefmifbghaaGreatDoor.V Go.Proofs
section
attribute [local irreducible] TwS TwR thenT inBlockT retT nextW localW loadedW swapW Rg.push Rg.pop
variable {G : World → Prop}
end
end Go.Proofs.YtjaipefmifbghaaGreatDoor
namespace Go.Proofs.YtjaipefmifbghaaGreatDoor
set_option maxRecDepth 20000
open Go Go.Proofs.YtjaipefmifbghaaGreatDoor.V Go.Proofs
section
attribute [local irreducible] TwS TwR thenT inBlockT retT nextW localW loadedW swapW Rg.push Rg.pop tsoW doR
variable {G : World → Prop}
theorem refCopy_spec (s : State) (ho : okS s) : Pure prog G 24 [.agg (cState s)] (.agg (cState s)) := by
 obtain ⟨h1, h2, h3, h4⟩ := ho
 have e1 : (s.mem.map fun n => [tI n]).length = s.mem.length := lM ..
 have e2 : (s.thr.map cThr).length = s.thr.length := lM ..
 refine Pure.at mixedOk F24 rfl fun C hP hG hp => goF ?_; simp only [F24, targEnv, Nat.zero_add, Nat.reduceAdd]
 repeat' (first | refine goR rfl ?_ | refine goS rfl ?_ | refine tret1 rfl ?_ | refine tretN rfl ?_ | refine gY rfl rfl ?_ | refine gN rfl rfl ?_ | refine qT rfl rfl ?_ | refine qF rfl rfl ?_ | refine tr_append0 rfl (.inl rfl) (by omega) rfl ?_ | fail)
 refine loopS (fun m env σ => ∃ a b, s.bufs = a ++ b ∧ m = b.length ∧ env = [(1, .p 0 0), (2, .p 1 0), (3, .p 2 0), (4, tI a.length)] ∧
  σ = ⟨[(0, .cells (cState s) 35), (1, .cells [.v (.slice none 0 0), .v (.slice none 0 0), .v (.slice none 0 0), tI 0] 35), (2, .cells [.s 3 1 0 (s.mem.map fun n => [tI n]).length true, .s 4 16 0 (s.thr.map cThr).length true, .s 5 1 0 a.length true, tI s.lock] 35), (3, .rows 1 (s.mem.map fun n => [tI n]) 2), (4, .rows 16 (s.thr.map cThr) 64), (5, .rows 1 (a.map cBuf) 102)], 6⟩) s.bufs.length
  ((w_virtC (j := 2) (i := 2) 1 102 rfl rfl).trans (w_canon 6 [] [1, 2, 3, 4] hp rfl rfl rfl rfl)) ⟨[], s.bufs, rfl, rfl, rfl, rfl⟩ ?_
 rintro m env σ ⟨a, b, e, rfl, rfl, rfl⟩
 have hla : s.bufs.length = a.length + b.length := by rw [e, lA]
 cases b with
 | nil =>
  rw [List.length_nil] at hla
  rw [List.append_nil] at e
  repeat' (first | refine goR rfl ?_ | refine goS rfl ?_ | refine tret1 rfl ?_ | refine tretN rfl ?_ | refine gY rfl rfl ?_ | refine gN rfl rfl ?_ | refine qT rfl rfl ?_ | refine qF rfl rfl ?_ | refine qF rfl (dF (by rw [lM]; omega)) ?_ | fail)
  show Fz _ _ (.agg [_, _, .lst 1 (s.bufs.map cBuf), _])
  rw [e]
  (repeat' first | exact FzL.nil | refine FzL.cons ?_ ?_ | exact Fz.fr rfl | exact Fz.nil _ | exact Fz.s _ _ _ _ _ _ rfl (lM ..).symm | exact Fz.s _ _ _ _ _ _ rfl rfl | refine Fz.pL rfl ?_ | refine Fz.aggL ?_); first | done | fail
 | cons x b =>
  have hx : s.bufs[a.length]? = some x := by rw [e]; exact ix
  simp only [List.length_cons] at hla
  have hxl := h4 x (by rw [e]; simp)
  have e3 : (x.map cEntry).length = x.length := lM ..
  have hw1 : IntKind.i64.wrap ((a.length : Int) + 1) = ((a ++ [x]).length : Int) := by rw [w64 (by omega), lA]; rfl
  repeat' (first | refine goR rfl ?_ | refine goS rfl ?_ | refine tret1 rfl ?_ | refine tretN rfl ?_ | refine gY rfl rfl ?_ | refine gN rfl rfl ?_ | refine qT rfl rfl ?_ | refine qF rfl rfl ?_ | refine qT rfl (dT (by rw [lM]; omega)) ?_ | refine lT (tl_ixm rfl rfl rfl hx) ?_ | refine tr_append0 rfl (.inl rfl) (by omega) rfl ?_ | refine tr_frzS 30 rfl rfl rfl ?_ | refine tr_append rfl rfl (by rw [lM]) (.inr (.inr ⟨_, _, _, _, rfl, rfl, rfl⟩)) (by simp only [List.length_cons, List.length_nil]; omega) rfl ?_ | fail)
  refine again (m' := b.length) (Nat.lt_succ_self _) (w_canon 6 [] [1, 2, 3, 4] hp rfl rfl rfl rfl) ⟨a ++ [x], b, by rw [e]; simp, rfl, by rw [hw1], ?_⟩
  simp [cBuf]
  rfl
end
end Go.Proofs.YtjaipefmifbghaaGreatDoor
namespace Go.Proofs.YtjaipefmifbghaaGreatDoor
set_option maxRecDepth 20000
open Go Go.Proofs.YtjaipefmifbghaaGreatDoor.V Go.Proofs
section
attribute [local irreducible] TwS TwR thenT inBlockT retT nextW localW loadedW swapW Rg.push Rg.pop
variable {G : World → Prop}
set_option maxHeartbeats 20000000 in
theorem ocopy_0 (p : Prg) (s : State) (hm : s.mem.length ≤ 1000000000) (ht : s.thr.length ≤ 3) :
  TC prog G 23 [.p 0 0] ⟨owM p s [] 0, 20⟩ [0] (fun v σ' => v = .p 4 0 ∧ σ' = ⟨owM p s [] 0 ++ owM p s [] 4, 40⟩) := by
 have e1 : (s.mem.map fun n => [tI n]).length = s.mem.length := lM ..
 have e2 : (s.thr.map cThr).length = s.thr.length := lM ..
 refine TC.at mixedOk F23 rfl fun C hP hG hp => goF ?_; simp only [F23, targEnv, Nat.zero_add, Nat.reduceAdd]
 repeat' (first | refine goR rfl ?_ | refine goS rfl ?_ | refine tret1 rfl ?_ | refine tretN rfl ?_ | refine gY rfl rfl ?_ | refine gN rfl rfl ?_ | refine qT rfl rfl ?_ | refine qF rfl rfl ?_ | refine tr_append rfl rfl rfl (.inr (.inr ⟨_, _, _, _, rfl, rfl, (by first | exact e1.symm | exact e2.symm)⟩)) (by first | (simp; omega) | (simp only [List.length_nil]; omega)) rfl ?_ | fail)
 simp only [Nat.zero_add, e1, e2]
 refine loopS (fun m env σ => ∃ i, i ≤ 0 ∧ m = 0 - i ∧ env = [(3, .p 4 0), (33, .s 3 1 0 0 true), (34, tI 0), (35, tI i)] ∧
  σ = ⟨owM p s [] 0 ++ owM p s ([].take i) 4, 60⟩) 0
  ((w_virtC (j := 24) (i := 3) 1 87 rfl rfl).trans (w_canon 60 [0] [3, 33, 34, 35] hp rfl rfl rfl rfl)) ⟨0, by omega, by omega, rfl, rfl⟩ ?_
 rintro m1 env σ ⟨i, hi, rfl, rfl, rfl⟩
 have hi' : i = 0 := by omega
 rcases hi' with rfl
 all_goals
  repeat' (first | refine goR rfl ?_ | refine goS rfl ?_ | refine tret1 rfl ?_ | refine tretN rfl ?_ | refine gY rfl rfl ?_ | refine gN rfl rfl ?_ | refine qT rfl rfl ?_ | refine qF rfl rfl ?_ | fail | refine lT (tl_ixo rfl rfl rfl (Nat.le_of_ble_eq_true rfl)) ?_ | refine lT (tl_ldEC rfl rfl rfl) ?_ | refine tr_rowC rfl rfl rfl ?_ | refine tr_appendN rfl rfl rfl rfl (by decide) rfl (by decide) rfl ?_ | refine tr_appendC rfl rfl rfl rfl rfl (by decide) rfl ⟨Nat.le_of_ble_eq_true rfl, Nat.le_of_ble_eq_true rfl⟩ rfl ?_ | fail)
  first | (refine again ?_ (w_canon 60 [0] [3, 33, 34, 35] hp rfl rfl rfl rfl) ⟨_ + 1, ?_, rfl, rfl, rfl⟩ <;> decide) | exact tretX 40 [0] rfl hp rfl rfl rfl rfl ⟨rfl, rfl⟩
set_option maxHeartbeats 20000000 in
theorem ocopy_1 (p : Prg) (s : State) (r0 : Rg) (hm : s.mem.length ≤ 1000000000) (ht : s.thr.length ≤ 3) (c0 : TC prog G 57 [.fp (cRg r0) 0] ⟨[], 0⟩ [] (fun v σ' => v = .p 0 0 ∧ σ' = ⟨rgO r0 0, 2⟩)) :
  TC prog G 23 [.p 0 0] ⟨owM p s [r0] 0, 20⟩ [0] (fun v σ' => v = .p 6 0 ∧ σ' = ⟨owM p s [r0] 0 ++ owM p s [r0] 6, 40⟩) := by
 have e1 : (s.mem.map fun n => [tI n]).length = s.mem.length := lM ..
 have e2 : (s.thr.map cThr).length = s.thr.length := lM ..
 refine TC.at mixedOk F23 rfl fun C hP hG hp => goF ?_; simp only [F23, targEnv, Nat.zero_add, Nat.reduceAdd]
 repeat' (first | refine goR rfl ?_ | refine goS rfl ?_ | refine tret1 rfl ?_ | refine tretN rfl ?_ | refine gY rfl rfl ?_ | refine gN rfl rfl ?_ | refine qT rfl rfl ?_ | refine qF rfl rfl ?_ | refine tr_append rfl rfl rfl (.inr (.inr ⟨_, _, _, _, rfl, rfl, (by first | exact e1.symm | exact e2.symm)⟩)) (by first | (simp; omega) | (simp only [List.length_nil]; omega)) rfl ?_ | fail)
 simp only [Nat.zero_add, e1, e2]
 refine loopS (fun m env σ => ∃ i, i ≤ 1 ∧ m = 1 - i ∧ env = [(3, .p 6 0), (33, .s 3 1 0 1 true), (34, tI 1), (35, tI i)] ∧
  σ = ⟨owM p s [r0] 0 ++ owM p s ([r0].take i) 6, 60⟩) 1
  ((w_virtC (j := 24) (i := 3) 1 87 rfl rfl).trans (w_canon 60 [0] [3, 33, 34, 35] hp rfl rfl rfl rfl)) ⟨0, by omega, by omega, rfl, rfl⟩ ?_
 rintro m1 env σ ⟨i, hi, rfl, rfl, rfl⟩
 have hi' : i = 0 ∨ i = 1 := by omega
 rcases hi' with rfl | rfl
 all_goals
  repeat' (first | refine goR rfl ?_ | refine goS rfl ?_ | refine tret1 rfl ?_ | refine tretN rfl ?_ | refine gY rfl rfl ?_ | refine gN rfl rfl ?_ | refine qT rfl rfl ?_ | refine qF rfl rfl ?_ | refine tr_mcallV hP hG (c0) rfl (by (repeat' first | exact FzL.nil | refine FzL.cons ?_ ?_ | exact Fz.fr rfl | exact Fz.nil _ | exact Fz.s _ _ _ _ _ _ rfl (lM ..).symm | exact Fz.s _ _ _ _ _ _ rfl rfl | refine Fz.pL rfl ?_ | refine Fz.aggL ?_); first | done | fail) rfl rfl rfl rfl rfl rfl (by (repeat' first | rfl | exact selfS_nil | refine selfS_cons ?_ ?_ | exact self_rows (fun _ => rfl) _ _ _); first | done | fail) rfl ?_ | refine lT (tl_ixo rfl rfl rfl (Nat.le_of_ble_eq_true rfl)) ?_ | refine lT (tl_ldEC rfl rfl rfl) ?_ | refine tr_rowC rfl rfl rfl ?_ | refine tr_appendN rfl rfl rfl rfl (by decide) rfl (by decide) rfl ?_ | refine tr_appendC rfl rfl rfl rfl rfl (by decide) rfl ⟨Nat.le_of_ble_eq_true rfl, Nat.le_of_ble_eq_true rfl⟩ rfl ?_ | fail)
  first | (refine again ?_ (w_canon 60 [0] [3, 33, 34, 35] hp rfl rfl rfl rfl) ⟨_ + 1, ?_, rfl, rfl, rfl⟩ <;> decide) | exact tretX 40 [0] rfl hp rfl rfl rfl rfl ⟨rfl, rfl⟩
set_option maxHeartbeats 20000000 in
theorem ocopy_2 (p : Prg) (s : State) (r0 : Rg) (r1 : Rg) (hm : s.mem.length ≤ 1000000000) (ht : s.thr.length ≤ 3) (c0 : TC prog G 57 [.fp (cRg r0) 0] ⟨[], 0⟩ [] (fun v σ' => v = .p 0 0 ∧ σ' = ⟨rgO r0 0, 2⟩)) (c1 : TC prog G 57 [.fp (cRg r1) 0] ⟨[], 0⟩ [] (fun v σ' => v = .p 0 0 ∧ σ' = ⟨rgO r1 0, 2⟩)) :
  TC prog G 23 [.p 0 0] ⟨owM p s [r0, r1] 0, 20⟩ [0] (fun v σ' => v = .p 8 0 ∧ σ' = ⟨owM p s [r0, r1] 0 ++ owM p s [r0, r1] 8, 40⟩) := by
 have e1 : (s.mem.map fun n => [tI n]).length = s.mem.length := lM ..
 have e2 : (s.thr.map cThr).length = s.thr.length := lM ..
 refine TC.at mixedOk F23 rfl fun C hP hG hp => goF ?_; simp only [F23, targEnv, Nat.zero_add, Nat.reduceAdd]
 repeat' (first | refine goR rfl ?_ | refine goS rfl ?_ | refine tret1 rfl ?_ | refine tretN rfl ?_ | refine gY rfl rfl ?_ | refine gN rfl rfl ?_ | refine qT rfl rfl ?_ | refine qF rfl rfl ?_ | refine tr_append rfl rfl rfl (.inr (.inr ⟨_, _, _, _, rfl, rfl, (by first | exact e1.symm | exact e2.symm)⟩)) (by first | (simp; omega) | (simp only [List.length_nil]; omega)) rfl ?_ | fail)
 simp only [Nat.zero_add, e1, e2]
 refine loopS (fun m env σ => ∃ i, i ≤ 2 ∧ m = 2 - i ∧ env = [(3, .p 8 0), (33, .s 3 1 0 2 true), (34, tI 2), (35, tI i)] ∧
  σ = ⟨owM p s [r0, r1] 0 ++ owM p s ([r0, r1].take i) 8, 60⟩) 2
  ((w_virtC (j := 24) (i := 3) 1 87 rfl rfl).trans (w_canon 60 [0] [3, 33, 34, 35] hp rfl rfl rfl rfl)) ⟨0, by omega, by omega, rfl, rfl⟩ ?_
 rintro m1 env σ ⟨i, hi, rfl, rfl, rfl⟩
 have hi' : i = 0 ∨ i = 1 ∨ i = 2 := by omega
 rcases hi' with rfl | rfl | rfl
 all_goals
  repeat' (first | refine goR rfl ?_ | refine goS rfl ?_ | refine tret1 rfl ?_ | refine tretN rfl ?_ | refine gY rfl rfl ?_ | refine gN rfl rfl ?_ | refine qT rfl rfl ?_ | refine qF rfl rfl ?_ | refine tr_mcallV hP hG (c0) rfl (by (repeat' first | exact FzL.nil | refine FzL.cons ?_ ?_ | exact Fz.fr rfl | exact Fz.nil _ | exact Fz.s _ _ _ _ _ _ rfl (lM ..).symm | exact Fz.s _ _ _ _ _ _ rfl rfl | refine Fz.pL rfl ?_ | refine Fz.aggL ?_); first | done | fail) rfl rfl rfl rfl rfl rfl (by (repeat' first | rfl | exact selfS_nil | refine selfS_cons ?_ ?_ | exact self_rows (fun _ => rfl) _ _ _); first | done | fail) rfl ?_ | refine tr_mcallV hP hG (c1) rfl (by (repeat' first | exact FzL.nil | refine FzL.cons ?_ ?_ | exact Fz.fr rfl | exact Fz.nil _ | exact Fz.s _ _ _ _ _ _ rfl (lM ..).symm | exact Fz.s _ _ _ _ _ _ rfl rfl | refine Fz.pL rfl ?_ | refine Fz.aggL ?_); first | done | fail) rfl rfl rfl rfl rfl rfl (by (repeat' first | rfl | exact selfS_nil | refine selfS_cons ?_ ?_ | exact self_rows (fun _ => rfl) _ _ _); first | done | fail) rfl ?_ | refine lT (tl_ixo rfl rfl rfl (Nat.le_of_ble_eq_true rfl)) ?_ | refine lT (tl_ldEC rfl rfl rfl) ?_ | refine tr_rowC rfl rfl rfl ?_ | refine tr_appendN rfl rfl rfl rfl (by decide) rfl (by decide) rfl ?_ | refine tr_appendC rfl rfl rfl rfl rfl (by decide) rfl ⟨Nat.le_of_ble_eq_true rfl, Nat.le_of_ble_eq_true rfl⟩ rfl ?_ | fail)
  first | (refine again ?_ (w_canon 60 [0] [3, 33, 34, 35] hp rfl rfl rfl rfl) ⟨_ + 1, ?_, rfl, rfl, rfl⟩ <;> decide) | exact tretX 40 [0] rfl hp rfl rfl rfl rfl ⟨rfl, rfl⟩
set_option maxHeartbeats 20000000 in
theorem ocopy_3 (p : Prg) (s : State) (r0 : Rg) (r1 : Rg) (r2 : Rg) (hm : s.mem.length ≤ 1000000000) (ht : s.thr.length ≤ 3) (c0 : TC prog G 57 [.fp (cRg r0) 0] ⟨[], 0⟩ [] (fun v σ' => v = .p 0 0 ∧ σ' = ⟨rgO r0 0, 2⟩)) (c1 : TC prog G 57 [.fp (cRg r1) 0] ⟨[], 0⟩ [] (fun v σ' => v = .p 0 0 ∧ σ' = ⟨rgO r1 0, 2⟩)) (c2 : TC prog G 57 [.fp (cRg r2) 0] ⟨[], 0⟩ [] (fun v σ' => v = .p 0 0 ∧ σ' = ⟨rgO r2 0, 2⟩)) :
  TC prog G 23 [.p 0 0] ⟨owM p s [r0, r1, r2] 0, 20⟩ [0] (fun v σ' => v = .p 10 0 ∧ σ' = ⟨owM p s [r0, r1, r2] 0 ++ owM p s [r0, r1, r2] 10, 40⟩) := by
 have e1 : (s.mem.map fun n => [tI n]).length = s.mem.length := lM ..
 have e2 : (s.thr.map cThr).length = s.thr.length := lM ..
 refine TC.at mixedOk F23 rfl fun C hP hG hp => goF ?_; simp only [F23, targEnv, Nat.zero_add, Nat.reduceAdd]
 repeat' (first | refine goR rfl ?_ | refine goS rfl ?_ | refine tret1 rfl ?_ | refine tretN rfl ?_ | refine gY rfl rfl ?_ | refine gN rfl rfl ?_ | refine qT rfl rfl ?_ | refine qF rfl rfl ?_ | refine tr_append rfl rfl rfl (.inr (.inr ⟨_, _, _, _, rfl, rfl, (by first | exact e1.symm | exact e2.symm)⟩)) (by first | (simp; omega) | (simp only [List.length_nil]; omega)) rfl ?_ | fail)
 simp only [Nat.zero_add, e1, e2]
 refine loopS (fun m env σ => ∃ i, i ≤ 3 ∧ m = 3 - i ∧ env = [(3, .p 10 0), (33, .s 3 1 0 3 true), (34, tI 3), (35, tI i)] ∧
  σ = ⟨owM p s [r0, r1, r2] 0 ++ owM p s ([r0, r1, r2].take i) 10, 60⟩) 3
  ((w_virtC (j := 24) (i := 3) 1 87 rfl rfl).trans (w_canon 60 [0] [3, 33, 34, 35] hp rfl rfl rfl rfl)) ⟨0, by omega, by omega, rfl, rfl⟩ ?_
 rintro m1 env σ ⟨i, hi, rfl, rfl, rfl⟩
 have hi' : i = 0 ∨ i = 1 ∨ i = 2 ∨ i = 3 := by omega
 rcases hi' with rfl | rfl | rfl | rfl
 all_goals
  repeat' (first | refine goR rfl ?_ | refine goS rfl ?_ | refine tret1 rfl ?_ | refine tretN rfl ?_ | refine gY rfl rfl ?_ | refine gN rfl rfl ?_ | refine qT rfl rfl ?_ | refine qF rfl rfl ?_ | refine tr_mcallV hP hG (c0) rfl (by (repeat' first | exact FzL.nil | refine FzL.cons ?_ ?_ | exact Fz.fr rfl | exact Fz.nil _ | exact Fz.s _ _ _ _ _ _ rfl (lM ..).symm | exact Fz.s _ _ _ _ _ _ rfl rfl | refine Fz.pL rfl ?_ | refine Fz.aggL ?_); first | done | fail) rfl rfl rfl rfl rfl rfl (by (repeat' first | rfl | exact selfS_nil | refine selfS_cons ?_ ?_ | exact self_rows (fun _ => rfl) _ _ _); first | done | fail) rfl ?_ | refine tr_mcallV hP hG (c1) rfl (by (repeat' first | exact FzL.nil | refine FzL.cons ?_ ?_ | exact Fz.fr rfl | exact Fz.nil _ | exact Fz.s _ _ _ _ _ _ rfl (lM ..).symm | exact Fz.s _ _ _ _ _ _ rfl rfl | refine Fz.pL rfl ?_ | refine Fz.aggL ?_); first | done | fail) rfl rfl rfl rfl rfl rfl (by (repeat' first | rfl | exact selfS_nil | refine selfS_cons ?_ ?_ | exact self_rows (fun _ => rfl) _ _ _); first | done | fail) rfl ?_ | refine tr_mcallV hP hG (c2) rfl (by (repeat' first | exact FzL.nil | refine FzL.cons ?_ ?_ | exact Fz.fr rfl | exact Fz.nil _ | exact Fz.s _ _ _ _ _ _ rfl (lM ..).symm | exact Fz.s _ _ _ _ _ _ rfl rfl | refine Fz.pL rfl ?_ | refine Fz.aggL ?_); first | done | fail) rfl rfl rfl rfl rfl rfl (by (repeat' first | rfl | exact selfS_nil | refine selfS_cons ?_ ?_ | exact self_rows (fun _ => rfl) _ _ _); first | done | fail) rfl ?_ | refine lT (tl_ixo rfl rfl rfl (Nat.le_of_ble_eq_true rfl)) ?_ | refine lT (tl_ldEC rfl rfl rfl) ?_ | refine tr_rowC rfl rfl rfl ?_ | refine tr_appendN rfl rfl rfl rfl (by decide) rfl (by decide) rfl ?_ | refine tr_appendC rfl rfl rfl rfl rfl (by decide) rfl ⟨Nat.le_of_ble_eq_true rfl, Nat.le_of_ble_eq_true rfl⟩ rfl ?_ | fail)
  first | (refine again ?_ (w_canon 60 [0] [3, 33, 34, 35] hp rfl rfl rfl rfl) ⟨_ + 1, ?_, rfl, rfl, rfl⟩ <;> decide) | exact tretX 40 [0] rfl hp rfl rfl rfl rfl ⟨rfl, rfl⟩
theorem ocopy_own (p : Prg) {m : Nat} (q : MS) (hq : oQ p m q) (hb : m ≤ 1000000) (hml : q.1.mem.length ≤ 1000000000) (hl3 : p.threads.length ≤ 3) :
  TC prog G 23 [.p 0 0] ⟨owM p q.1 q.2 0, 20⟩ [0] (fun v σ' => v = .p (4 + 2 * q.2.length) 0 ∧ σ' = ⟨owM p q.1 q.2 0 ++ owM p q.1 q.2 (4 + 2 * q.2.length), 40⟩) := by
 obtain ⟨s, R⟩ := q
 obtain ⟨hst, hrg, hth, hlk, hheld⟩ := hq
 simp only at hst hrg hth hml ⊢
 have hRl : R.length ≤ 3 := by have := hrg.len; omega
 have hcr : ∀ r ∈ R, TC prog G 57 [.fp (cRg r) 0] ⟨[], 0⟩ [] (fun v σ' => v = .p 0 0 ∧ σ' = ⟨rgO r 0, 2⟩) := fun r hr => rcopy_own r (by have := hrg.few r hr; omega)
 rcases rows3 hRl with rfl | ⟨r0, rfl⟩ | ⟨r0, r1, rfl⟩ | ⟨r0, r1, r2, rfl⟩
 ·exact ocopy_0 p s hml (by omega)
 ·exact ocopy_1 p s r0 hml (by omega) (hcr r0 (by simp))
 ·exact ocopy_2 p s r0 r1 hml (by omega) (hcr r0 (by simp)) (hcr r1 (by simp))
 ·exact ocopy_3 p s r0 r1 r2 hml (by omega) (hcr r0 (by simp)) (hcr r1 (by simp)) (hcr r2 (by simp))
end
end Go.Proofs.YtjaipefmifbghaaGreatDoor
namespace Go.Proofs.YtjaipefmifbghaaGreatDoor
set_option maxRecDepth 20000
open Go Go.Proofs.YtjaipefmifbghaaGreatDoor.V Go.Proofs
section
attribute [local irreducible] TwS TwR thenT inBlockT retT nextW localW loadedW swapW Rg.push Rg.pop
variable {G : World → Prop}
theorem odrain_nil : Pure prog G 20 [.v (.pointer none)] (.tup []) := by
 refine Pure.at mixedOk F20 rfl fun C hP hG hp => goF ?_; simp only [F20, targEnv, Nat.zero_add, Nat.reduceAdd]
 repeat' (first | refine goR rfl ?_ | refine goS rfl ?_ | refine tret1 rfl ?_ | refine tretN rfl ?_ | refine gY rfl rfl ?_ | refine gN rfl rfl ?_ | refine qT rfl rfl ?_ | refine qF rfl rfl ?_ | fail)
 exact tret0 rfl (.frT rfl)
theorem odo_nil (t : Int) (f : Bool) : Pure prog G 12 [.v (.pointer none), .agg [tI t, tB f]] (tB false) := by
 refine Pure.at mixedOk F12 rfl fun C hP hG hp => goF ?_; simp only [F12, targEnv, Nat.zero_add, Nat.reduceAdd]
 repeat' (first | refine goR rfl ?_ | refine goS rfl ?_ | refine tret1 rfl ?_ | refine tretN rfl ?_ | refine gY rfl rfl ?_ | refine gN rfl rfl ?_ | refine qT rfl rfl ?_ | refine qF rfl rfl ?_ | ((first | refine gS rfl (fun h => ?_) (fun h => ?_) | refine ts_cond rfl (fun h => ?_) (fun h => ?_)) <;> (try simp only [bs0, beq_iff_eq] at h) <;> try (exfalso; omega; done)) | fail)
 exact .fr rfl
theorem orun_nil (x : Int × Bool) : Pure prog G 22 [.v (.pointer none), .lst 2 [cPick x]] (tI 0) := by
 have c := fun G => odo_nil (G := G) x.1 x.2
 refine Pure.at mixedOk F22 rfl fun C hP hG hp => goF ?_; simp only [F22, targEnv, Nat.zero_add, Nat.reduceAdd]
 repeat' (first | refine goR rfl ?_ | refine goS rfl ?_ | refine tret1 rfl ?_ | refine tretN rfl ?_ | refine gY rfl rfl ?_ | refine gN rfl rfl ?_ | refine qT rfl rfl ?_ | refine qF rfl rfl ?_ | fail)
 refine loopS (fun m env σ => ∃ i : Nat, i ≤ 1 ∧ m = 1 - i ∧ env = [(0, .v (.pointer none)), (5, tI 0), (8, .lst 2 [cPick x]), (9, tI 1), (10, tI i)] ∧ σ = ⟨[], 0⟩) 1 (w_canon 0 [] [0, 5, 8, 9, 10] hp rfl rfl rfl rfl) ⟨0, by omega, rfl, rfl, rfl⟩ ?_
 rintro m env σ ⟨i, hi, rfl, rfl, rfl⟩
 have hi : i = 0 ∨ i = 1 := by omega
 rcases hi with rfl | rfl
 ·repeat' (first | refine goR rfl ?_ | refine goS rfl ?_ | refine tret1 rfl ?_ | refine tretN rfl ?_ | refine gY rfl rfl ?_ | refine gN rfl rfl ?_ | refine qT rfl rfl ?_ | refine qF rfl rfl ?_ | refine lT (tl_ixf (m := 0) rfl rfl rfl rfl) ?_ | refine cA rfl (by rw [hP]; exact c _) rfl ?_ | fail)
  exact again (m' := 0) (by decide) (w_canon 0 [] [0, 5, 8, 9, 10] hp rfl rfl rfl rfl) ⟨1, by decide, rfl, rfl, rfl⟩
 ·repeat' (first | refine goR rfl ?_ | refine goS rfl ?_ | refine tret1 rfl ?_ | refine tretN rfl ?_ | refine gY rfl rfl ?_ | refine gN rfl rfl ?_ | refine qT rfl rfl ?_ | refine qF rfl rfl ?_ | fail)
  exact .fr rfl
theorem ostate_nil : Pure prog G 15 [.v (.pointer none)] (.agg (cState zSt)) := by
 refine Pure.at mixedOk F15 rfl fun C hP hG hp => goF ?_; simp only [F15, targEnv, Nat.zero_add, Nat.reduceAdd]
 repeat' (first | refine goR rfl ?_ | refine goS rfl ?_ | refine tret1 rfl ?_ | refine tretN rfl ?_ | refine gY rfl rfl ?_ | refine gN rfl rfl ?_ | refine qT rfl rfl ?_ | refine qF rfl rfl ?_ | fail)
 repeat' (first | exact FzL.nil | refine FzL.cons ?_ ?_ | exact .nil _ | exact .f _ rfl | exact .frT rfl | refine .tupL ?_ | refine .aggL ?_ | exact .s _ _ _ _ _ _ rfl rfl | refine .pL rfl ?_)
theorem ocopy_nil : Pure prog G 23 [.v (.pointer none)] (.v (.pointer none)) := by
 refine Pure.at mixedOk F23 rfl fun C hP hG hp => goF ?_; simp only [F23, targEnv, Nat.zero_add, Nat.reduceAdd]
 repeat' (first | refine goR rfl ?_ | refine goS rfl ?_ | refine tret1 rfl ?_ | refine tretN rfl ?_ | refine gY rfl rfl ?_ | refine gN rfl rfl ?_ | refine qT rfl rfl ?_ | refine qF rfl rfl ?_ | fail)
 exact .fr rfl
end
def owF (p : Prg) (s : State) (n : Nat) (k : Nat) : List (Nat × TObj) := [(k, .cells [.fp (cCore p) 0, .s (k + 1) 1 0 s.mem.length true, .s (k + 2) 16 0 s.thr.length true, .s (k + 3) 1 0 n true, tI s.lock] 86), (k + 1, memT s), (k + 2, thrT s), (k + 3, .rows 1 (List.replicate n [.fp (cRg Rg.new) 0]) 87)]
section
attribute [local irreducible] TwS TwR thenT inBlockT retT nextW localW loadedW swapW Rg.push Rg.pop
variable {G : World → Prop}
theorem onewF_own (p : Prg) (ho : okP p) (hc : checkC p = 0) (hs : okS (start0 p)) (hb : (start0 p).bufs = []) : TC prog Tabs 9 [.agg (cPrg p)] ⟨[], 0⟩ [] (fun v σ' => v = .p 0 0 ∧ σ' = ⟨owF p (start0 p) p.threads.length 0, 4⟩) := by
 have c := make_spec p ho hc
 have c2 := startS_own (G := Tabs) p hs hb
 have c3 := rnew_own (G := Tabs)
 have hpl : (start0 p).thr.length = p.threads.length := List.length_replicate ..
 obtain ⟨_, k2, _, _⟩ := check_syms hc
 refine TC.at mixedOk F9 rfl fun C hP hG hp => goF ?_; simp only [F9, targEnv, Nat.zero_add, Nat.reduceAdd]
 repeat' (first | refine goR rfl ?_ | refine goS rfl ?_ | refine tret1 rfl ?_ | refine tretN rfl ?_ | refine gY rfl rfl ?_ | refine gN rfl rfl ?_ | refine qT rfl rfl ?_ | refine qF rfl rfl ?_ | refine cA rfl (by rw [hP, hG]; exact c) rfl ?_ | refine tr_mcallX hP hG (c2) rfl rfl rfl rfl rfl rfl rfl rfl rfl rfl rfl rfl ?_ | fail)
 refine loopS (fun m env σ => ∃ i, i ≤ p.threads.length ∧ m = p.threads.length - i ∧ env = [(5, .p 0 0), (23, tI (start0 p).thr.length), (24, tI i)] ∧ σ = ⟨owF p (start0 p) i 0, 30⟩) p.threads.length ((w_virtC (j := 4) (i := 3) 1 87 rfl rfl).trans (w_canon 30 [] [5, 23, 24] hp rfl rfl rfl rfl)) ⟨0, by omega, by omega, rfl, rfl⟩ ?_
 rintro m1 env σ ⟨i, hi, rfl, rfl, rfl⟩
 by_cases hlt : i < p.threads.length
 ·have hw1 : IntKind.i64.wrap ((i : Int) + 1) = ((i + 1 : Nat) : Int) := by rw [w64 (by omega)]; rfl
  repeat' (first | refine goR rfl ?_ | refine goS rfl ?_ | refine tret1 rfl ?_ | refine tretN rfl ?_ | refine gY rfl rfl ?_ | refine gN rfl rfl ?_ | refine qT rfl rfl ?_ | refine qF rfl rfl ?_ | refine qT rfl (dT (by omega)) ?_ | refine tr_mcallX hP hG (c3) rfl rfl rfl rfl rfl rfl rfl rfl rfl rfl rfl rfl ?_ | fail)
  refine tr_weak ((w_freezeC (j := 30) (i := 0) (k := 31) rfl rfl rfl (by decide) (.s 0 true rfl)).trans (w_freezeP 31 rfl rfl rfl)) ?_
  repeat' (first | refine goR rfl ?_ | refine goS rfl ?_ | refine tret1 rfl ?_ | refine tretN rfl ?_ | refine gY rfl rfl ?_ | refine gN rfl rfl ?_ | refine qT rfl rfl ?_ | refine qF rfl rfl ?_ | refine tr_append rfl rfl (by rw [List.length_replicate]) (.inr (.inr ⟨_, _, _, _, rfl, rfl, rfl⟩)) (by simp only [List.length_cons, List.length_nil]; omega) rfl ?_ | fail)
  refine again (m' := p.threads.length - (i + 1)) (by omega) (w_canon 30 [] [5, 23, 24] hp rfl rfl rfl rfl) ⟨i + 1, hlt, rfl, by rw [hw1], ?_⟩
  rw [show owF p (start0 p) (i + 1) 0 = [_, _, _, (3, .rows 1 (List.replicate i [.fp (cRg Rg.new) 0] ++ [[.fp (cRg Rg.new) 0]]) 87)] by rw [← List.replicate_succ']; rfl]
  rfl
 ·have hie : i = p.threads.length := by omega
  repeat' (first | refine goR rfl ?_ | refine goS rfl ?_ | refine tret1 rfl ?_ | refine tretN rfl ?_ | refine gY rfl rfl ?_ | refine gN rfl rfl ?_ | refine qT rfl rfl ?_ | refine qF rfl rfl ?_ | refine qF rfl (dF (by omega)) ?_ | fail)
  rw [hie]
  exact tretX 4 [] rfl hp rfl rfl rfl rfl ⟨rfl, rfl⟩
end
section
attribute [local irreducible] TwS TwR thenT inBlockT retT nextW localW loadedW swapW Rg.push Rg.pop owW doO cntO
set_option maxHeartbeats 20000000 in
theorem owensNil (p : Prg) (l : List (List Act)) (hl : ∀ r ∈ l, ∀ a ∈ r, inR a.n) (picks more : List Int) : Pure prog Tabs 6 [.agg (cPrg p), cActs l, rwI picks, rwI more] (tB true) := by
 have g1 := fun G => great_spec (G := G) p
 have d0 := fun G => odrain_nil (G := G)
 have d1 := fun G => odo_nil (G := G) 0 false
 have d2 := fun G => orun_nil (G := G) (0, false)
 have d3 := fun G => ostate_nil (G := G)
 have d4 := fun G => ocopy_nil (G := G)
 have d5 := fun G => sameSt_spec (G := G) zSt ⟨by decide, by decide, by decide, fun s hs => by cases hs⟩
 have c3 := aliveO_spec
 cases hg : greatP p with
 | true =>
  rw [hg] at g1
  refine Pure.at mixedOk F6 rfl fun C hP hG hp => goF ?_; simp only [F6, targEnv, Nat.zero_add, Nat.reduceAdd]
  repeat' (first | refine goR rfl ?_ | refine goS rfl ?_ | refine tret1 rfl ?_ | refine tretN rfl ?_ | refine gY rfl rfl ?_ | refine gN rfl rfl ?_ | refine qT rfl rfl ?_ | refine qF rfl rfl ?_ | refine cA rfl (by rw [hP]; exact g1 _) rfl ?_ | refine cA rfl (by rw [hP, hG]; exact c3) rfl ?_ | fail)
  exact .fr rfl
 | false =>
  rw [hg] at g1
  have hop := great_ok hg
  have g3 := check_spec2 p hop
  obtain ⟨p2, ho, hc, hn, c1, h3, hq, _⟩ := book_sc l hl
  have hth : (p2.threads.map cTh).length = p2.threads.length := lM ..
  have hq0 := beginO_ok hq
  have c2 := onew_own p2 ho hc (start_okS hc) rfl h3
  have c4 := picks_own (G := Tabs) picks (p2.threads.map cTh).length 40 (by omega) (by decide)
  have c4' := picks_own (G := Tabs) more (p2.threads.map cTh).length 40 (by omega) (by decide)
  have hpa := picksF_len picks (p2.threads.map cTh).length 40
  have hpb := picksF_len more (p2.threads.map cTh).length 40
  generalize picksF picks (p2.threads.map cTh).length 40 = pa at c4 hpa
  generalize picksF more (p2.threads.map cTh).length 40 = pb at c4' hpb
  have hqa := hq0.run hc hn pa
  have c5 := orun_own p2 ho hc hn _ hq0 pa (by omega) h3
  have c6 := ostate_own (G := Tabs) p2 _ hqa (by omega) (by have := hqa.memLen hc; omega) h3
  have hok := hqa.okS hc (by omega) (by omega)
  have c6' := refCopy_spec (G := Tabs) _ hok
  have c7 := ocopy_own (G := Tabs) p2 _ hqa (by omega) (by have := hqa.memLen hc; omega) h3
  have hqb := hqa.run hc hn pb
  have c8 := orun_own p2 ho hc hn _ hqa pb (by omega) h3
  have hqc := drAO_ok hc hn hqb p2.threads.length
  have c9 := odrain_own p2 ho hc hn _ hqb (by omega) h3
  have c10 := sameSt_spec (G := Tabs) _ hok
  have hR0 : (beginM p2).2.length ≤ 3 := by show (List.replicate _ _).length ≤ 3; rw [List.length_replicate]; exact h3
  obtain ⟨s3, R3, hq3, hl3, hR3⟩ := hqc.split hqb h3
  obtain ⟨s2, R2, hq2, hl2, hR2⟩ := hqb.split hqa h3
  obtain ⟨s1, R1, hq1, hl1, hR1⟩ := hqa.split hq0 h3
  rw [hq3] at c9
  rw [hq2] at c8 c9 hl3
  rw [hq1] at c5 c6 c6' c7 c8 c10 hl2
  generalize hqe : beginM p2 = q0 at *
  obtain ⟨s0, R0⟩ := q0
  simp only at c2 c5 c6 c6' c7 c8 c9 c10 hl1 hl2 hl3 hR0
  generalize cntO p2 (s0, R0) pa = n1 at c5
  generalize cntO p2 (s1, R1) pb = n2 at c8
  refine Pure.at mixedOk F6 rfl fun C hP hG hp => goF ?_; simp only [F6, targEnv, Nat.zero_add, Nat.reduceAdd]
  repeat' (first | refine goR rfl ?_ | refine goS rfl ?_ | refine tret1 rfl ?_ | refine tretN rfl ?_ | refine gY rfl rfl ?_ | refine gN rfl rfl ?_ | refine qT rfl rfl ?_ | refine qF rfl rfl ?_ | refine cA rfl (by rw [hP]; exact g1 _) rfl ?_ | refine cA rfl (by rw [hP]; exact d0 _) rfl ?_ | fail)
  refine joinR 1 (fun env σ => env = [(1, cActs l), (2, rwI picks), (3, rwI more)] ∧ σ = ⟨[], 0⟩) rfl ?_ ?_
  ·by_cases hcp : checkC p = 0
   ·have g2 := onewF_own p hop hcp (start_okS hcp) rfl
    rw [hcp] at g3
    repeat' (first | refine goR rfl ?_ | refine goS rfl ?_ | refine tret1 rfl ?_ | refine tretN rfl ?_ | refine gY rfl rfl ?_ | refine gN rfl rfl ?_ | refine qT rfl rfl ?_ | refine qF rfl rfl ?_ | refine tr_mcallX hP hG (g2) rfl rfl rfl rfl rfl rfl rfl rfl rfl rfl rfl rfl ?_ | refine lT (tl_neb (by rw [hP]; exact ut_bool) rfl rfl) ?_ | refine cA rfl (by rw [hP, hG]; exact g3) rfl ?_ | refine lT (tl_eqb (by rw [hP]; exact ut_bool) rfl rfl) ?_ | refine cA rfl (by rw [hP]; exact d1 _) rfl ?_ | refine tr_callV hP hG (d2 _) rfl (by (repeat' first | exact FzL.nil | refine FzL.cons ?_ ?_ | exact Fz.fr rfl | exact Fz.nil _ | exact Fz.s _ _ _ _ _ _ rfl (lM ..).symm | exact Fz.s _ _ _ _ _ _ rfl rfl | refine Fz.pL rfl ?_ | refine Fz.aggL ?_); first | done | fail) rfl ?_ | refine cA rfl (by rw [hP]; exact d3 _) rfl ?_ | refine cA rfl (by rw [hP]; exact d4 _) rfl ?_ | refine tr_callV hP hG (d5 _) rfl (by (repeat' first | exact FzL.nil | refine FzL.cons ?_ ?_ | exact Fz.fr rfl | exact Fz.nil _ | exact Fz.s _ _ _ _ _ _ rfl (lM ..).symm | exact Fz.s _ _ _ _ _ _ rfl rfl | refine Fz.pL rfl ?_ | refine Fz.aggL ?_); first | done | fail) rfl ?_ | fail)
    exact joined (w_canon 0 [] [1, 2, 3] hp rfl rfl rfl rfl) ⟨rfl, rfl⟩
   ·have g2 := onew_no p hop hcp
    generalize checkC p = k at g3 hcp
    have hk : decide (k = 0) = false := dF hcp
    repeat' (first | refine goR rfl ?_ | refine goS rfl ?_ | refine tret1 rfl ?_ | refine tretN rfl ?_ | refine gY rfl rfl ?_ | refine gN rfl rfl ?_ | refine qT rfl rfl ?_ | refine qF rfl rfl ?_ | refine cA rfl (by rw [hP, hG]; exact g2) rfl ?_ | (refine lT (tl_neb (by rw [hP]; exact ut_bool) rfl rfl) ?_; rw [hk]) | refine cA rfl (by rw [hP, hG]; exact g3) rfl ?_ | refine lT (tl_eqb (by rw [hP]; exact ut_bool) rfl rfl) ?_ | refine cA rfl (by rw [hP]; exact d1 _) rfl ?_ | refine tr_callV hP hG (d2 _) rfl (by (repeat' first | exact FzL.nil | refine FzL.cons ?_ ?_ | exact Fz.fr rfl | exact Fz.nil _ | exact Fz.s _ _ _ _ _ _ rfl (lM ..).symm | exact Fz.s _ _ _ _ _ _ rfl rfl | refine Fz.pL rfl ?_ | refine Fz.aggL ?_); first | done | fail) rfl ?_ | refine cA rfl (by rw [hP]; exact d3 _) rfl ?_ | refine cA rfl (by rw [hP]; exact d4 _) rfl ?_ | refine tr_callV hP hG (d5 _) rfl (by (repeat' first | exact FzL.nil | refine FzL.cons ?_ ?_ | exact Fz.fr rfl | exact Fz.nil _ | exact Fz.s _ _ _ _ _ _ rfl (lM ..).symm | exact Fz.s _ _ _ _ _ _ rfl rfl | refine Fz.pL rfl ?_ | refine Fz.aggL ?_); first | done | fail) rfl ?_ | fail)
    exact joined (w_canon 0 [] [1, 2, 3] hp rfl rfl rfl rfl) ⟨rfl, rfl⟩
  ·rintro env σ ⟨rfl, rfl⟩
   rcases rows33 hR0 hl1 with ⟨rfl, rfl⟩ | ⟨_, _, rfl, rfl⟩ | ⟨_, _, _, _, rfl, rfl⟩ | ⟨_, _, _, _, _, _, rfl, rfl⟩
   all_goals
    rcases rows33 hR2 hl3 with ⟨rfl, rfl⟩ | ⟨_, _, rfl, rfl⟩ | ⟨_, _, _, _, rfl, rfl⟩ | ⟨_, _, _, _, _, _, rfl, rfl⟩
   all_goals first | (exfalso; simp at hl2; done) | skip
   all_goals
    repeat' (first | refine goR rfl ?_ | refine goS rfl ?_ | refine tret1 rfl ?_ | refine tretN rfl ?_ | refine gY rfl rfl ?_ | refine gN rfl rfl ?_ | refine qT rfl rfl ?_ | refine qF rfl rfl ?_ | refine cA rfl (by rw [hP]; exact c1 _) rfl ?_ | refine tr_mcallX hP hG (c2) rfl rfl rfl rfl rfl rfl rfl rfl rfl rfl rfl rfl ?_ | refine tr_mcallX hP hG (c4) rfl rfl rfl rfl rfl rfl rfl rfl rfl rfl rfl rfl ?_ | refine tr_mcallX hP hG (c4') rfl rfl rfl rfl rfl rfl rfl rfl rfl rfl rfl rfl ?_ | refine tr_frzS 61 rfl rfl (lM ..).symm ?_ | refine tr_frzS 75 rfl rfl (lM ..).symm ?_ | refine tr_mcallX hP hG (c5) rfl rfl rfl rfl rfl rfl rfl rfl rfl rfl rfl rfl ?_ | refine tr_mcallX hP hG (c6) rfl rfl rfl rfl rfl rfl rfl rfl rfl rfl rfl rfl ?_ | refine tr_frzA 64 0 rfl rfl rfl (lM ..).symm ?_ | refine tr_frzA 64 1 rfl rfl rfl (lM ..).symm ?_ | refine tr_frzA 64 2 rfl rfl rfl (lM ..).symm ?_ | refine cA rfl (by rw [hP, hG]; exact c6') rfl ?_ | refine tr_mcallX hP hG (c7) rfl rfl rfl rfl rfl rfl rfl rfl rfl rfl rfl rfl ?_ | refine tr_mcallX hP hG (c8) rfl rfl rfl rfl rfl rfl rfl rfl rfl rfl rfl rfl ?_ | refine tr_mcallX hP hG (c9) rfl rfl rfl rfl rfl rfl rfl rfl rfl rfl rfl rfl ?_ | refine tr_callV hP hG (c10) rfl (by (repeat' first | exact FzL.nil | refine FzL.cons ?_ ?_ | exact Fz.fr rfl | exact Fz.nil _ | exact Fz.s _ _ _ _ _ _ rfl (lM ..).symm | exact Fz.s _ _ _ _ _ _ rfl rfl | refine Fz.pL rfl ?_ | refine Fz.aggL ?_); first | done | fail) rfl ?_ | refine cA rfl (by rw [hP, hG]; exact c3) rfl ?_ | fail)
    exact .fr rfl
end
end Go.Proofs.YtjaipefmifbghaaGreatDoor
