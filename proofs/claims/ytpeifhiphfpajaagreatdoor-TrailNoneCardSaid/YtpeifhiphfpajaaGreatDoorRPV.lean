/-
  Walks of functions of the program, and what the laws need of them.
-/
import Derived.Test.YtpeifhiphfpajaaGreatDoorRPC
import Derived.Test.YtpeifhiphfpajaaGreatDoorRPG
import Derived.Test.YtpeifhiphfpajaaGreatDoorRPK
import Derived.Test.YtpeifhiphfpajaaGreatDoorRPT
import Derived.Test.YtpeifhiphfpajaaGreatDoorRPH
import Derived.Test.YtpeifhiphfpajaaGreatDoorRPR
set_option linter.all false
set_option linter.unusedSimpArgs false
set_option linter.unusedVariables false
set_option linter.unnecessarySimpa false
namespace Go.Proofs.YtpeifhiphfpajaaGreatDoor
set_option maxRecDepth 20000
open Go Go.Proofs.YtpeifhiphfpajaaGreatDoor.V Go.Proofs
def longB (l : List ByteArray) : Bool := l.any fun s => decide (60 < s.size)
def greatI (i : Ins) : Bool := if 6 < i.labels.length ∨ 60 < i.to.size then true else longB i.labels
def greatT (t : List Ins) : Bool := if 12 < t.length then true else t.any greatI
def symG (s : Sym) : Bool := decide (60 < s.name.size ∨ 66 < s.init.length)
def greatP (p : Prg) : Bool := if 66 < p.syms.length ∨ 66 < p.threads.length then true else if p.syms.any symG then true else p.threads.any greatT
section
attribute [local irreducible] TwS TwR thenT inBlockT retT
variable {G : World → Prop}
theorem greatI_spec (i : Ins) : Pure prog G 66 [.agg (cIns i)] (tB (greatI i)) := by
 refine Pure.at mixedOk F66 rfl fun C hP hG hp => goF ?_; simp only [F66, targEnv, Nat.zero_add, Nat.reduceAdd]
 have hl : (i.labels.map fun s => [tS s]).length = i.labels.length := lM ..
 by_cases hb : 6 < i.labels.length ∨ 60 < i.to.size
 ·rw [greatI, if_pos hb]
  repeat' (first | refine goR rfl ?_ | refine goS rfl ?_ | refine tret1 rfl ?_ | refine tretN rfl ?_ | refine gY rfl rfl ?_ | refine gN rfl rfl ?_ | refine qT rfl rfl ?_ | refine qF rfl rfl ?_ | ((first | refine gS rfl (fun h => ?_) (fun h => ?_) | refine ts_cond rfl (fun h => ?_) (fun h => ?_)) <;> (try simp only [bs0, beq_iff_eq] at h) <;> try (exfalso; omega; done)) | fail)
  all_goals exact .fr rfl
 rw [greatI, if_neg hb]
 repeat' (first | refine goR rfl ?_ | refine goS rfl ?_ | refine tret1 rfl ?_ | refine tretN rfl ?_ | refine gY rfl rfl ?_ | refine gN rfl rfl ?_ | refine qT rfl rfl ?_ | refine qF rfl rfl ?_ | ((first | refine gS rfl (fun h => ?_) (fun h => ?_) | refine ts_cond rfl (fun h => ?_) (fun h => ?_)) <;> (try simp only [bs0, beq_iff_eq] at h) <;> try (exfalso; omega; done)) | fail)
 refine loopS (fun m env σ => ∃ a b, i.labels = a ++ b ∧ m = b.length ∧ longB i.labels = longB b ∧ env = [(1, .p 0 0), (3, tI a.length)] ∧ σ = ⟨[(0, .cells (cIns i) 72)], 1⟩) i.labels.length ?_ ⟨[], i.labels, rfl, rfl, rfl, rfl, rfl⟩ ?_
 ·(refine w_ren [(0, 0)] rfl (by rw [hp]; intro j hj; cases hj) rfl ?_ ?_ <;> repeat' (first | exact .nil | exact .f _ rfl | exact .s _ _ _ _ _ _ rfl | exact .p _ _ _ rfl | exact .rows _ _ _ | exact .iter _ _ | exact RenL.nil _ | refine RenL.cons ?_ ?_ | refine .cells _ _ _ ?_ | refine .cons _ _ _ _ rfl ?_ ?_ | refine .cons _ _ _ _ _ rfl rfl ?_ ?_ | refine .rowsE ?_ | refine .sE rfl ?_ | exact .m _ _ rfl | refine .fE rfl ?_ | exact RenO.mB _ | exact RenO.mB [] | fail))
 rintro m env σ ⟨a, b, e, rfl, hI, rfl, rfl⟩
 have hla : i.labels.length = a.length + b.length := by rw [e, lA]
 cases b with
 | nil =>
  rw [List.length_nil] at hla
  repeat' (first | refine goR rfl ?_ | refine goS rfl ?_ | refine tret1 rfl ?_ | refine tretN rfl ?_ | refine gY rfl rfl ?_ | refine gN rfl rfl ?_ | refine qT rfl rfl ?_ | refine qF rfl rfl ?_ | refine qF rfl (dF (by rw [lM]; omega)) ?_ | fail)
  rw [hI]
  exact .fr rfl
 | cons x b =>
  have hx : i.labels[a.length]? = some x := by rw [e]; exact ix
  simp only [List.length_cons] at hla
  simp only [longB, List.any_cons] at hI
  repeat' (first | refine goR rfl ?_ | refine goS rfl ?_ | refine tret1 rfl ?_ | refine tretN rfl ?_ | refine gY rfl rfl ?_ | refine gN rfl rfl ?_ | refine qT rfl rfl ?_ | refine qF rfl rfl ?_ | refine qT rfl (dT (by rw [lM]; omega)) ?_ | refine lT (tl_ixm rfl rfl rfl hx) ?_ | ((first | refine gS rfl (fun h => ?_) (fun h => ?_) | refine ts_cond rfl (fun h => ?_) (fun h => ?_)) <;> try simp only [bs0, beq_iff_eq] at h) | fail)
  ·have : longB i.labels = true := by rw [longB, hI, dT (by omega), Bool.true_or]
   rw [this]
   exact .fr rfl
  ·refine again (m' := b.length) (Nat.lt_succ_self _) ?_ ⟨a ++ [x], b, by rw [e]; simp, rfl, by rw [longB, hI, dF (by omega), Bool.false_or]; rfl, rfl, rfl⟩
   (refine w_ren [(0, 0)] rfl (by rw [hp]; intro j hj; cases hj) rfl ?_ ?_ <;> repeat' (first | exact .nil | exact .f _ rfl | exact .s _ _ _ _ _ _ rfl | exact .p _ _ _ rfl | exact .rows _ _ _ | exact .iter _ _ | exact RenL.nil _ | refine RenL.cons ?_ ?_ | refine .cells _ _ _ ?_ | refine .cons _ _ _ _ rfl ?_ ?_ | refine .cons _ _ _ _ _ rfl rfl ?_ ?_ | refine .rowsE ?_ | refine .sE rfl ?_ | exact .m _ _ rfl | refine .fE rfl ?_ | exact RenO.mB _ | exact RenO.mB [] | fail))
   all_goals first | rfl | (rw [w64 (by omega), lA, List.length_singleton]; rfl) | (rw [lA]; rfl) | (rw [List.map_append]; rfl) | rw [lM] | rw [List.append_nil] | skip
theorem greatT_spec (t : List Ins) : Pure prog G 39 [.agg (cTh t)] (tB (greatT t)) := by
 refine Pure.at mixedOk F39 rfl fun C hP hG hp => goF ?_; simp only [F39, targEnv, Nat.zero_add, Nat.reduceAdd]
 have hl : (t.map cIns).length = t.length := lM ..
 by_cases hb : 12 < t.length
 ·rw [greatT, if_pos hb]
  repeat' (first | refine goR rfl ?_ | refine goS rfl ?_ | refine tret1 rfl ?_ | refine tretN rfl ?_ | refine gY rfl rfl ?_ | refine gN rfl rfl ?_ | refine qT rfl rfl ?_ | refine qF rfl rfl ?_ | ((first | refine gS rfl (fun h => ?_) (fun h => ?_) | refine ts_cond rfl (fun h => ?_) (fun h => ?_)) <;> (try simp only [bs0, beq_iff_eq] at h) <;> try (exfalso; omega; done)) | fail)
  all_goals exact .fr rfl
 rw [greatT, if_neg hb]
 repeat' (first | refine goR rfl ?_ | refine goS rfl ?_ | refine tret1 rfl ?_ | refine tretN rfl ?_ | refine gY rfl rfl ?_ | refine gN rfl rfl ?_ | refine qT rfl rfl ?_ | refine qF rfl rfl ?_ | ((first | refine gS rfl (fun h => ?_) (fun h => ?_) | refine ts_cond rfl (fun h => ?_) (fun h => ?_)) <;> (try simp only [bs0, beq_iff_eq] at h) <;> try (exfalso; omega; done)) | fail)
 refine loopS (fun m env σ => ∃ a b, t = a ++ b ∧ m = b.length ∧ t.any greatI = b.any greatI ∧ env = [(1, .p 0 0), (3, tI a.length)] ∧ σ = ⟨[(0, .cells (cTh t) 67)], 1⟩) t.length ?_ ⟨[], t, rfl, rfl, rfl, rfl, rfl⟩ ?_
 ·(refine w_ren [(0, 0)] rfl (by rw [hp]; intro j hj; cases hj) rfl ?_ ?_ <;> repeat' (first | exact .nil | exact .f _ rfl | exact .s _ _ _ _ _ _ rfl | exact .p _ _ _ rfl | exact .rows _ _ _ | exact .iter _ _ | exact RenL.nil _ | refine RenL.cons ?_ ?_ | refine .cells _ _ _ ?_ | refine .cons _ _ _ _ rfl ?_ ?_ | refine .cons _ _ _ _ _ rfl rfl ?_ ?_ | refine .rowsE ?_ | refine .sE rfl ?_ | exact .m _ _ rfl | refine .fE rfl ?_ | exact RenO.mB _ | exact RenO.mB [] | fail))
 rintro m env σ ⟨a, b, e, rfl, hI, rfl, rfl⟩
 have hla : t.length = a.length + b.length := by rw [e, lA]
 cases b with
 | nil =>
  rw [List.length_nil] at hla
  repeat' (first | refine goR rfl ?_ | refine goS rfl ?_ | refine tret1 rfl ?_ | refine tretN rfl ?_ | refine gY rfl rfl ?_ | refine gN rfl rfl ?_ | refine qT rfl rfl ?_ | refine qF rfl rfl ?_ | refine qF rfl (dF (by rw [lM]; omega)) ?_ | fail)
  rw [hI]
  exact .fr rfl
 | cons x b =>
  have hx : t[a.length]? = some x := by rw [e]; exact ix
  simp only [List.length_cons] at hla
  simp only [List.any_cons] at hI
  obtain ⟨g, hg⟩ : ∃ g, g = greatI x := ⟨_, rfl⟩
  have c := fun G => greatI_spec (G := G) x
  rw [← hg] at hI c
  cases g
  ·repeat' (first | refine goR rfl ?_ | refine goS rfl ?_ | refine tret1 rfl ?_ | refine tretN rfl ?_ | refine gY rfl rfl ?_ | refine gN rfl rfl ?_ | refine qT rfl rfl ?_ | refine qF rfl rfl ?_ | refine qT rfl (dT (by rw [lM]; omega)) ?_ | refine lT (tl_ixm rfl rfl rfl hx) ?_ | refine cA rfl (by rw [hP]; exact c _) rfl ?_ | fail)
   refine again (m' := b.length) (Nat.lt_succ_self _) ?_ ⟨a ++ [x], b, by rw [e]; simp, rfl, by rw [hI, Bool.false_or], rfl, rfl⟩
   (refine w_ren [(0, 0)] rfl (by rw [hp]; intro j hj; cases hj) rfl ?_ ?_ <;> repeat' (first | exact .nil | exact .f _ rfl | exact .s _ _ _ _ _ _ rfl | exact .p _ _ _ rfl | exact .rows _ _ _ | exact .iter _ _ | exact RenL.nil _ | refine RenL.cons ?_ ?_ | refine .cells _ _ _ ?_ | refine .cons _ _ _ _ rfl ?_ ?_ | refine .cons _ _ _ _ _ rfl rfl ?_ ?_ | refine .rowsE ?_ | refine .sE rfl ?_ | exact .m _ _ rfl | refine .fE rfl ?_ | exact RenO.mB _ | exact RenO.mB [] | fail))
   all_goals first | rfl | (rw [w64 (by omega), lA, List.length_singleton]; rfl) | (rw [lA]; rfl) | (rw [List.map_append]; rfl) | rw [lM] | rw [List.append_nil] | skip
  ·repeat' (first | refine goR rfl ?_ | refine goS rfl ?_ | refine tret1 rfl ?_ | refine tretN rfl ?_ | refine gY rfl rfl ?_ | refine gN rfl rfl ?_ | refine qT rfl rfl ?_ | refine qF rfl rfl ?_ | refine qT rfl (dT (by rw [lM]; omega)) ?_ | refine lT (tl_ixm rfl rfl rfl hx) ?_ | refine cA rfl (by rw [hP]; exact c _) rfl ?_ | fail)
   rw [hI, Bool.true_or]
   exact .fr rfl
theorem great_spec (p : Prg) : Pure prog G 16 [.agg (cPrg p)] (tB (greatP p)) := by
 refine Pure.at mixedOk F16 rfl fun C hP hG hp => goF ?_; simp only [F16, targEnv, Nat.zero_add, Nat.reduceAdd]
 have hl : (p.syms.map cSym).length = p.syms.length := lM ..
 have hl2 : (p.threads.map cTh).length = p.threads.length := lM ..
 by_cases hb : 66 < p.syms.length ∨ 66 < p.threads.length
 ·rw [greatP, if_pos hb]
  repeat' (first | refine goR rfl ?_ | refine goS rfl ?_ | refine tret1 rfl ?_ | refine tretN rfl ?_ | refine gY rfl rfl ?_ | refine gN rfl rfl ?_ | refine qT rfl rfl ?_ | refine qF rfl rfl ?_ | ((first | refine gS rfl (fun h => ?_) (fun h => ?_) | refine ts_cond rfl (fun h => ?_) (fun h => ?_)) <;> (try simp only [bs0, beq_iff_eq] at h) <;> try (exfalso; omega; done)) | fail)
  all_goals exact .fr rfl
 rw [greatP, if_neg hb]
 repeat' (first | refine goR rfl ?_ | refine goS rfl ?_ | refine tret1 rfl ?_ | refine tretN rfl ?_ | refine gY rfl rfl ?_ | refine gN rfl rfl ?_ | refine qT rfl rfl ?_ | refine qF rfl rfl ?_ | ((first | refine gS rfl (fun h => ?_) (fun h => ?_) | refine ts_cond rfl (fun h => ?_) (fun h => ?_)) <;> (try simp only [bs0, beq_iff_eq] at h) <;> try (exfalso; omega; done)) | fail)
 refine loopS (fun m env σ => ∃ a b, p.syms = a ++ b ∧ m = b.length ∧ p.syms.any symG = b.any symG ∧ env = [(1, .p 0 0), (3, tI a.length)] ∧ σ = ⟨[(0, .cells (cPrg p) 27)], 1⟩) p.syms.length ?_ ⟨[], p.syms, rfl, rfl, rfl, rfl, rfl⟩ ?_
 ·(refine w_ren [(0, 0)] rfl (by rw [hp]; intro j hj; cases hj) rfl ?_ ?_ <;> repeat' (first | exact .nil | exact .f _ rfl | exact .s _ _ _ _ _ _ rfl | exact .p _ _ _ rfl | exact .rows _ _ _ | exact .iter _ _ | exact RenL.nil _ | refine RenL.cons ?_ ?_ | refine .cells _ _ _ ?_ | refine .cons _ _ _ _ rfl ?_ ?_ | refine .cons _ _ _ _ _ rfl rfl ?_ ?_ | refine .rowsE ?_ | refine .sE rfl ?_ | exact .m _ _ rfl | refine .fE rfl ?_ | exact RenO.mB _ | exact RenO.mB [] | fail))
 rintro m env σ ⟨a, b, e, rfl, hI, rfl, rfl⟩
 have hla : p.syms.length = a.length + b.length := by rw [e, lA]
 cases b with
 | cons x b =>
  have hx : p.syms[a.length]? = some x := by rw [e]; exact ix
  simp only [List.length_cons] at hla
  simp only [List.any_cons] at hI
  have hxi : (x.init.map fun n => [tI n]).length = x.init.length := lM ..
  by_cases hs : 60 < x.name.size ∨ 66 < x.init.length
  ·have : symG x = true := dT hs
   rw [this, Bool.true_or] at hI
   rw [if_pos hI]
   repeat' (first | refine goR rfl ?_ | refine goS rfl ?_ | refine tret1 rfl ?_ | refine tretN rfl ?_ | refine gY rfl rfl ?_ | refine gN rfl rfl ?_ | refine qT rfl rfl ?_ | refine qF rfl rfl ?_ | refine qT rfl (dT (by rw [lM]; omega)) ?_ | refine lT (tl_ixm rfl rfl rfl hx) ?_ | ((first | refine gS rfl (fun h => ?_) (fun h => ?_) | refine ts_cond rfl (fun h => ?_) (fun h => ?_)) <;> (try simp only [bs0, beq_iff_eq] at h) <;> try (exfalso; omega; done)) | fail)
   all_goals exact .fr rfl
  ·have : symG x = false := dF hs
   rw [this, Bool.false_or] at hI
   repeat' (first | refine goR rfl ?_ | refine goS rfl ?_ | refine tret1 rfl ?_ | refine tretN rfl ?_ | refine gY rfl rfl ?_ | refine gN rfl rfl ?_ | refine qT rfl rfl ?_ | refine qF rfl rfl ?_ | refine qT rfl (dT (by rw [lM]; omega)) ?_ | refine lT (tl_ixm rfl rfl rfl hx) ?_ | ((first | refine gS rfl (fun h => ?_) (fun h => ?_) | refine ts_cond rfl (fun h => ?_) (fun h => ?_)) <;> (try simp only [bs0, beq_iff_eq] at h) <;> try (exfalso; omega; done)) | fail)
   refine again (m' := b.length) (Nat.lt_succ_self _) ?_ ⟨a ++ [x], b, by rw [e]; simp, rfl, hI, rfl, rfl⟩
   (refine w_ren [(0, 0)] rfl (by rw [hp]; intro j hj; cases hj) rfl ?_ ?_ <;> repeat' (first | exact .nil | exact .f _ rfl | exact .s _ _ _ _ _ _ rfl | exact .p _ _ _ rfl | exact .rows _ _ _ | exact .iter _ _ | exact RenL.nil _ | refine RenL.cons ?_ ?_ | refine .cells _ _ _ ?_ | refine .cons _ _ _ _ rfl ?_ ?_ | refine .cons _ _ _ _ _ rfl rfl ?_ ?_ | refine .rowsE ?_ | refine .sE rfl ?_ | exact .m _ _ rfl | refine .fE rfl ?_ | exact RenO.mB _ | exact RenO.mB [] | fail))
   all_goals first | rfl | (rw [w64 (by omega), lA, List.length_singleton]; rfl) | (rw [lA]; rfl) | (rw [List.map_append]; rfl) | rw [lM] | rw [List.append_nil] | skip
 | nil =>
  rw [List.length_nil] at hla
  rw [List.any_nil] at hI
  rw [if_neg (by rw [hI]; decide)]
  repeat' (first | refine goR rfl ?_ | refine goS rfl ?_ | refine tret1 rfl ?_ | refine tretN rfl ?_ | refine gY rfl rfl ?_ | refine gN rfl rfl ?_ | refine qT rfl rfl ?_ | refine qF rfl rfl ?_ | refine qF rfl (dF (by rw [lM]; omega)) ?_ | fail)
  refine loopS (fun m env σ => ∃ a b, p.threads = a ++ b ∧ m = b.length ∧ p.threads.any greatT = b.any greatT ∧ env = [(1, .p 0 0), (4, tI a.length)] ∧ σ = ⟨[(0, .cells (cPrg p) 27)], 1⟩) p.threads.length ?_ ⟨[], p.threads, rfl, rfl, rfl, rfl, rfl⟩ ?_
  ·(refine w_ren [(0, 0)] rfl (by rw [hp]; intro j hj; cases hj) rfl ?_ ?_ <;> repeat' (first | exact .nil | exact .f _ rfl | exact .s _ _ _ _ _ _ rfl | exact .p _ _ _ rfl | exact .rows _ _ _ | exact .iter _ _ | exact RenL.nil _ | refine RenL.cons ?_ ?_ | refine .cells _ _ _ ?_ | refine .cons _ _ _ _ rfl ?_ ?_ | refine .cons _ _ _ _ _ rfl rfl ?_ ?_ | refine .rowsE ?_ | refine .sE rfl ?_ | exact .m _ _ rfl | refine .fE rfl ?_ | exact RenO.mB _ | exact RenO.mB [] | fail))
  rintro m env σ ⟨a, b, e, rfl, hI, rfl, rfl⟩
  have hla : p.threads.length = a.length + b.length := by rw [e, lA]
  cases b with
  | nil =>
   rw [List.length_nil] at hla
   repeat' (first | refine goR rfl ?_ | refine goS rfl ?_ | refine tret1 rfl ?_ | refine tretN rfl ?_ | refine gY rfl rfl ?_ | refine gN rfl rfl ?_ | refine qT rfl rfl ?_ | refine qF rfl rfl ?_ | refine qF rfl (dF (by rw [lM]; omega)) ?_ | fail)
   rw [hI]
   exact .fr rfl
  | cons x b =>
   have hx : p.threads[a.length]? = some x := by rw [e]; exact ix
   simp only [List.length_cons] at hla
   simp only [List.any_cons] at hI
   obtain ⟨g, hg⟩ : ∃ g, g = greatT x := ⟨_, rfl⟩
   have c := fun G => greatT_spec (G := G) x
   rw [← hg] at hI c
   cases g
   ·repeat' (first | refine goR rfl ?_ | refine goS rfl ?_ | refine tret1 rfl ?_ | refine tretN rfl ?_ | refine gY rfl rfl ?_ | refine gN rfl rfl ?_ | refine qT rfl rfl ?_ | refine qF rfl rfl ?_ | refine qT rfl (dT (by rw [lM]; omega)) ?_ | refine lT (tl_ixm rfl rfl rfl hx) ?_ | refine cA rfl (by rw [hP]; exact c _) rfl ?_ | fail)
    refine again (m' := b.length) (Nat.lt_succ_self _) ?_ ⟨a ++ [x], b, by rw [e]; simp, rfl, by rw [hI, Bool.false_or], rfl, rfl⟩
    (refine w_ren [(0, 0)] rfl (by rw [hp]; intro j hj; cases hj) rfl ?_ ?_ <;> repeat' (first | exact .nil | exact .f _ rfl | exact .s _ _ _ _ _ _ rfl | exact .p _ _ _ rfl | exact .rows _ _ _ | exact .iter _ _ | exact RenL.nil _ | refine RenL.cons ?_ ?_ | refine .cells _ _ _ ?_ | refine .cons _ _ _ _ rfl ?_ ?_ | refine .cons _ _ _ _ _ rfl rfl ?_ ?_ | refine .rowsE ?_ | refine .sE rfl ?_ | exact .m _ _ rfl | refine .fE rfl ?_ | exact RenO.mB _ | exact RenO.mB [] | fail))
    all_goals first | rfl | (rw [w64 (by omega), lA, List.length_singleton]; rfl) | (rw [lA]; rfl) | (rw [List.map_append]; rfl) | rw [lM] | rw [List.append_nil] | skip
   ·repeat' (first | refine goR rfl ?_ | refine goS rfl ?_ | refine tret1 rfl ?_ | refine tretN rfl ?_ | refine gY rfl rfl ?_ | refine gN rfl rfl ?_ | refine qT rfl rfl ?_ | refine qF rfl rfl ?_ | refine qT rfl (dT (by rw [lM]; omega)) ?_ | refine lT (tl_ixm rfl rfl rfl hx) ?_ | refine cA rfl (by rw [hP]; exact c _) rfl ?_ | fail)
    rw [hI, Bool.true_or]
    exact .fr rfl
end
theorem any_no {α : Type} {l : List α} {f : α → Bool} (h : l.any f = false) : ∀ x ∈ l, f x = false := fun x hx => by
 cases hf : f x with
 | false => rfl
 | true => exact absurd (List.any_eq_true.mpr ⟨x, hx, hf⟩) (by rw [h]; decide)
theorem labs_len : ∀ {t : List Ins} {n : Nat}, (∀ i ∈ t, i.labels.length ≤ n) → (allLabs t).length ≤ t.length * n
 | [], _, _ => Nat.zero_le _
 | i :: t, n, h => by
  have h1 := h i (List.mem_cons_self ..)
  have h2 := labs_len (t := t) fun j hj => h j (List.mem_cons_of_mem _ hj)
  simp only [allLabs, List.flatMap_cons, lA, List.length_cons] at h2 ⊢
  rw [Nat.add_mul, Nat.one_mul]
  omega
theorem great_ok {p : Prg} (h : greatP p = false) : okP p := by
 unfold greatP at h
 split at h
 ·cases h
 rename_i h1
 split at h
 ·cases h
 rename_i h2
 have h2 := any_no (Bool.eq_false_iff.mpr h2)
 have h3 := any_no h
 refine ⟨by omega, fun s hs => ?_, by omega, fun t ht => ?_⟩
 ·have := of_decide_eq_false (h2 s hs)
  omega
 ·have h4 := h3 t ht
  unfold greatT at h4
  split at h4
  ·cases h4
  have h5 := any_no h4
  have h6 : ∀ i ∈ t, ¬ (6 < i.labels.length ∨ 60 < i.to.size) ∧ longB i.labels = false := fun i hi => by
   have h7 := h5 i hi
   unfold greatI at h7
   split at h7
   ·cases h7
   ·exact ⟨‹_›, h7⟩
  have h8 := labs_len (n := 6) fun i hi => by have := (h6 i hi).1; omega
  refine ⟨⟨by omega, by omega⟩, fun i hi => ?_⟩
  obtain ⟨h9, h10⟩ := h6 i hi
  refine ⟨by omega, by omega, fun l hl => ?_⟩
  have := of_decide_eq_false (any_no h10 l hl)
  omega
end Go.Proofs.YtpeifhiphfpajaaGreatDoor
namespace Go.Proofs.YtpeifhiphfpajaaGreatDoor
set_option maxRecDepth 20000
open Go Go.Proofs.YtpeifhiphfpajaaGreatDoor.V Go.Proofs
theorem st_progP : (prog.underlying 27).bind stTys = some [24, 25] := by kernel_rfl
theorem st_symP : (prog.underlying 63).bind stTys = some [9, 3, 37] := by kernel_rfl
theorem st_threadP : (prog.underlying 67).bind stTys = some [65] := by kernel_rfl
theorem st_insP : (prog.underlying 72).bind stTys = some [3, 4, 3, 69, 69, 9, 70] := by kernel_rfl
theorem st_opdP : (prog.underlying 69).bind stTys = some [3, 3, 3, 2] := by kernel_rfl
theorem un_intP : prog.underlying 3 = some (.int .i64) := by kernel_rfl
theorem un_int64P : prog.underlying 2 = some (.int .i64) := by kernel_rfl
theorem un_boolP : prog.underlying 4 = some .bool := by kernel_rfl
theorem un_stringP : prog.underlying 9 = some .string := by kernel_rfl
theorem un_symsP : prog.underlying 24 = some (.slice 63) := by kernel_rfl
theorem un_thsP : prog.underlying 25 = some (.slice 67) := by kernel_rfl
theorem un_inssP : prog.underlying 65 = some (.slice 72) := by kernel_rfl
theorem un_i64sP : prog.underlying 37 = some (.slice 2) := by kernel_rfl
theorem un_strsP : prog.underlying 70 = some (.slice 9) := by kernel_rfl
theorem ce_symP : prog.cellsOf 63 = 3 := by kernel_rfl
theorem ce_thP : prog.cellsOf 67 = 1 := by kernel_rfl
theorem ce_insP : prog.cellsOf 72 = 13 := by kernel_rfl
theorem ce_i64P : prog.cellsOf 2 = 1 := by kernel_rfl
theorem ce_strP : prog.cellsOf 9 = 1 := by kernel_rfl
theorem opd_tyP {d : Nat} {cs : List TV} (h : TyL prog (d + 2) 69 cs) : ∃ o : Opd, cs = cOpd o := by
 obtain ⟨xs, rfl, k⟩ := tl_st st_opdP h
 cases k with | cons g0 k =>
 cases k with | cons g1 k =>
 cases k with | cons g2 k =>
 cases k with | cons g3 k =>
 cases k
 obtain ⟨a0, rfl, _⟩ := tl_int un_intP g0
 obtain ⟨a1, rfl, _⟩ := tl_int un_intP g1
 obtain ⟨a2, rfl, _⟩ := tl_int un_intP g2
 obtain ⟨a3, rfl, _⟩ := tl_int un_int64P g3
 exact ⟨⟨a0, a1, a2, a3⟩, rfl⟩
theorem ins_tyP {d : Nat} {cs : List TV} (h : TyL prog (d + 3) 72 cs) : ∃ i : Ins, cs = cIns i := by
 obtain ⟨xs, rfl, k⟩ := tl_st st_insP h
 cases k with | cons g0 k =>
 cases k with | cons g1 k =>
 cases k with | cons g2 k =>
 cases k with | cons g3 k =>
 cases k with | cons g4 k =>
 cases k with | cons g5 k =>
 cases k with | cons g6 k =>
 cases k
 obtain ⟨a0, rfl, _⟩ := tl_int un_intP g0
 obtain ⟨a1, rfl⟩ := tl_bool un_boolP g1
 obtain ⟨a2, rfl, _⟩ := tl_int un_intP g2
 obtain ⟨a3, rfl⟩ := opd_tyP g3
 obtain ⟨a4, rfl⟩ := opd_tyP g4
 obtain ⟨a5, rfl, _⟩ := tl_str un_stringP g5
 obtain ⟨xs, rfl, k⟩ := tl_sli un_strsP ce_strP g6
 obtain ⟨l, rfl⟩ := map_of' (c := fun s => [tS s]) fun x hx => let ⟨s, e, _⟩ := tl_str un_stringP (k x hx); ⟨s, e⟩
 exact ⟨⟨a0, a1, a2, a3, a4, a5, l⟩, rfl⟩
theorem sym_tyP {d : Nat} {cs : List TV} (h : TyL prog (d + 3) 63 cs) : ∃ i : Sym, cs = cSym i := by
 obtain ⟨xs, rfl, k⟩ := tl_st st_symP h
 cases k with | cons g0 k =>
 cases k with | cons g1 k =>
 cases k with | cons g2 k =>
 cases k
 obtain ⟨a0, rfl, _⟩ := tl_str un_stringP g0
 obtain ⟨a1, rfl, _⟩ := tl_int un_intP g1
 obtain ⟨xs, rfl, k⟩ := tl_sli un_i64sP ce_i64P g2
 obtain ⟨l, rfl⟩ := map_of' (c := fun s => [tI s]) fun x hx => let ⟨s, e, _⟩ := tl_int un_int64P (k x hx); ⟨s, e⟩
 exact ⟨⟨a0, a1, l⟩, rfl⟩
theorem th_tyP {d : Nat} {cs : List TV} (h : TyL prog (d + 5) 67 cs) : ∃ t : List Ins, cs = cTh t := by
 obtain ⟨xs, rfl, k⟩ := tl_st st_threadP h
 cases k with | cons g0 k =>
 cases k
 obtain ⟨xs, rfl, k⟩ := tl_sli un_inssP ce_insP g0
 obtain ⟨l, rfl⟩ := map_of' (c := cIns) fun x hx => ins_tyP (k x hx)
 exact ⟨l, rfl⟩
theorem prg_tyP {d : Nat} {x : TV} (h : TyV prog (d + 7) x 27) : ∃ p : Prg, x = .agg (cPrg p) := by
 obtain ⟨cs, rfl, m⟩ := tv_agg st_progP h
 obtain ⟨xs, rfl, k⟩ := tl_st st_progP m
 cases k with | cons g0 k =>
 cases k with | cons g1 k =>
 cases k
 obtain ⟨xs, rfl, k⟩ := tl_sli un_symsP ce_symP g0
 obtain ⟨l, rfl⟩ := map_of' (c := cSym) fun x hx => sym_tyP (k x hx)
 obtain ⟨xs, rfl, k⟩ := tl_sli un_thsP ce_thP g1
 obtain ⟨t, rfl⟩ := map_of' (c := cTh) fun x hx => th_tyP (k x hx)
 exact ⟨⟨l, t⟩, rfl⟩
end Go.Proofs.YtpeifhiphfpajaaGreatDoor
namespace Go.Proofs.YtpeifhiphfpajaaGreatDoor
set_option maxRecDepth 20000
open Go Go.Proofs.YtpeifhiphfpajaaGreatDoor.V Go.Proofs
theorem st_pick6 : (prog.underlying 47).bind stTys = some [3, 4] := by kernel_rfl
theorem pick_ty {d : Nat} {x : TV} (h : TyV prog (d + 3) x 47) : ∃ a : Int × Bool, x = .agg [tI a.1, tB a.2] := by
 obtain ⟨cs, rfl, m⟩ := tv_agg st_pick6 h
 obtain ⟨ys, rfl, n⟩ := tl_st st_pick6 m
 cases n with | cons g0 n =>
 cases n with | cons g1 n =>
 cases n
 obtain ⟨a0, rfl, _⟩ := tl_int un_int g0
 obtain ⟨a1, rfl⟩ := tl_bool un_bool g1
 exact ⟨(a0, a1), rfl⟩
end Go.Proofs.YtpeifhiphfpajaaGreatDoor
namespace Go.Proofs.YtpeifhiphfpajaaGreatDoor
set_option maxRecDepth 20000
open Go Go.Proofs.YtpeifhiphfpajaaGreatDoor.V Go.Proofs
section
attribute [local irreducible] TwS TwR thenT inBlockT retT
set_option maxHeartbeats 20000000 in
theorem trailOf_no (p : Prg) (ho : okP p) (hc : checkC p ≠ 0) (l : List Pk) : Pure prog Tabs 9 [.agg (cPrg p), .lst 2 (l.map cPick)] (.v (.slice none 0 0)) := by
 have c1 := make_no p ho hc
 have c2 := tnew_no p ho hc
 refine Pure.at mixedOk F9 rfl fun C hP hG hp => goF ?_; simp only [F9, targEnv, Nat.zero_add, Nat.reduceAdd]
 repeat' (first | refine goR rfl ?_ | refine goS rfl ?_ | refine tret1 rfl ?_ | refine tretN rfl ?_ | refine gY rfl rfl ?_ | refine gN rfl rfl ?_ | refine qT rfl rfl ?_ | refine qF rfl rfl ?_ | refine cA rfl (by rw [hP, hG]; exact c1) rfl ?_ | refine cA rfl (by rw [hP, hG]; exact c2) rfl ?_ | fail)
 exact .fr rfl
end
end Go.Proofs.YtpeifhiphfpajaaGreatDoor
namespace Go.Proofs.YtpeifhiphfpajaaGreatDoor
set_option maxRecDepth 20000
open Go Go.Proofs.YtpeifhiphfpajaaGreatDoor.V Go.Proofs
theorem book_sm (l : List (List Act)) (many : Nat) (hm : many < 29) (hl : ∀ r ∈ l, ∀ a ∈ r, inR a.n) : ∃ p, okP p ∧ checkC p = 0 ∧ numsOk p ∧ (∀ G, Pure prog G 6 [cActs l, tI 3, tI many] (.agg (cPrg p))) ∧ p.threads.length ≤ 3 ∧ stQ p (start0 p) := by
 obtain ⟨h1, h2⟩ := prog_ok l 3 many (by decide) hm
 refine ⟨_, h2, h1, prog_nums hl 3 many, fun G => progO_spec l 3 many (by decide) (by omega), ?_, start_q ?_⟩
 ·show ((l.take 3).map (thO many)).length ≤ 3
  rw [lM, List.length_take]; omega
 ·intro v hv
  have hv : v ∈ [(0 : Int), 1, 0, 0] := hv
  have : v = 0 ∨ v = 1 ∨ v = 0 := by simpa using hv
  rcases this with rfl | rfl | rfl <;> (unfold inR; decide)
section
attribute [local irreducible] TwS TwR thenT inBlockT retT
set_option maxHeartbeats 20000000 in
theorem trailNone_of (p : Prg) (l : List (List Act)) (hl : ∀ r ∈ l, ∀ a ∈ r, inR a.n) (x : Pk) (hA : Pure prog Tabs 11 [] (tB true))
  (hOf : ∀ q, okP q → checkC q = 0 → numsOk q → stQ q (start0 q) → q.threads.length ≤ 3 → Pure prog Tabs 9 [.agg (cPrg q), .v (.slice none 0 0)] (.lst 6 [])) :
  Pure prog Tabs 5 [.agg (cPrg p), cActs l, .agg (cPick x)] (tB true) := by
 have c1 := fun G => great_spec (G := G) p
 cases hg : greatP p with
 | true =>
  simp only [hg] at c1
  refine Pure.at mixedOk F5 rfl fun C hP hG hp => goF ?_; simp only [F5, targEnv, Nat.zero_add, Nat.reduceAdd]
  repeat' (first | refine goR rfl ?_ | refine goS rfl ?_ | refine tret1 rfl ?_ | refine tretN rfl ?_ | refine gY rfl rfl ?_ | refine gN rfl rfl ?_ | refine qT rfl rfl ?_ | refine qF rfl rfl ?_ | refine cA rfl (by rw [hP]; exact c1 _) rfl ?_ | refine cA rfl (by rw [hP, hG]; exact hA) rfl ?_ | fail)
  exact .fr rfl
 | false =>
  simp only [hg] at c1
  have hop := great_ok hg
  have c2 := check_spec2 p hop
  obtain ⟨q, q1, q2, q3, q4, q5, q6⟩ := book_sm l 6 (by decide) hl
  have c5 := hOf q q1 q2 q3 q6 q5
  have q4 : ∀ G, Pure prog G 6 [cActs l, tI 3, tI 6] (.agg (cPrg q)) := q4
  by_cases hc : checkC p = 0
  ·rw [hc] at c2
   refine Pure.at mixedOk F5 rfl fun C hP hG hp => goF ?_; simp only [F5, targEnv, Nat.zero_add, Nat.reduceAdd]
   repeat' (first | refine goR rfl ?_ | refine goS rfl ?_ | refine tret1 rfl ?_ | refine tretN rfl ?_ | refine gY rfl rfl ?_ | refine gN rfl rfl ?_ | refine qT rfl rfl ?_ | refine qF rfl rfl ?_ | refine cA rfl (by rw [hP]; exact c1 _) rfl ?_ | refine cA rfl (by rw [hP, hG]; exact c2) rfl ?_ | refine cA rfl (by rw [hP]; exact q4 _) rfl ?_ | refine cA rfl (by rw [hP, hG]; exact c5) rfl ?_ | refine cA rfl (by rw [hP, hG]; exact hA) rfl ?_ | fail)
   exact .fr rfl
  ·have c3 := trailOf_no p hop hc [x, x]
   refine Pure.at mixedOk F5 rfl fun C hP hG hp => goF ?_; simp only [F5, targEnv, Nat.zero_add, Nat.reduceAdd]
   repeat' (first | refine goR rfl ?_ | refine goS rfl ?_ | refine tret1 rfl ?_ | refine tretN rfl ?_ | refine gY rfl rfl ?_ | refine gN rfl rfl ?_ | refine qT rfl rfl ?_ | refine qF rfl rfl ?_ | refine tr_frzS 17 rfl rfl rfl ?_ | refine cA rfl (by rw [hP]; exact c1 _) rfl ?_ | refine cA rfl (by rw [hP, hG]; exact c2) rfl ?_ | refine cA rfl (by rw [hP, hG]; exact c3) rfl ?_ | refine cA rfl (by rw [hP]; exact q4 _) rfl ?_ | refine cA rfl (by rw [hP, hG]; exact c5) rfl ?_ | refine cA rfl (by rw [hP, hG]; exact hA) rfl ?_ | ((first | refine gS rfl (fun h => ?_) (fun h => ?_) | refine ts_cond rfl (fun h => ?_) (fun h => ?_)) <;> (try simp only [bs0, beq_iff_eq] at h) <;> try (exfalso; first | omega | exact hc h; done)) | fail)
   all_goals exact .fr rfl
end
end Go.Proofs.YtpeifhiphfpajaaGreatDoor
namespace Go.Proofs.YtpeifhiphfpajaaGreatDoor
set_option maxRecDepth 20000
open Go Go.Proofs.YtpeifhiphfpajaaGreatDoor.V Go.Proofs
theorem nil_arg {P : Program} {G : World → Prop} {f : FuncId} {a r : TV} {sz : Nat} (h : Pure P G f [a, .lst sz []] r) : Pure P G f [a, .v (.slice none 0 0)] r := by
 intro w0 st Φ vargs h1 h2 h3 h4
 refine h w0 st Φ vargs h1 h2 h3 ⟨h4.len, fun i x y hx hy => ?_⟩
 match i with
 | 0 => exact h4.rel 0 x y hx hy
 | 1 =>
  cases hx
  have h5 := h4.rel 1 (.v (.slice none 0 0)) y rfl hy
  cases h5
  exact .lst sz [] none 0 0 [] rfl (by decide) (fun a0 h => by cases h) (fun _ => Nat.le_refl _) (fun a0 h => by cases h) (fun x h => by cases h) (fun h => absurd rfl h) (fun j y z h => by simp at h)
 | i + 2 => simp at hx
end Go.Proofs.YtpeifhiphfpajaaGreatDoor
namespace Go.Proofs.YtpeifhiphfpajaaGreatDoor
set_option maxRecDepth 20000
open Go Go.Proofs.YtpeifhiphfpajaaGreatDoor.V Go.Proofs
theorem trailR_nil (p : Prg) (hc : checkC p = 0) : (trailR p []).es = [] := by
 obtain ⟨b1, b2⟩ := beginR_ok p
 obtain ⟨r1, r2⟩ := run_ok hc [] b1 b2
 obtain ⟨_, _, _, g4⟩ := drRA_ok hc r1 r2 p.threads.length (by rw [r1.th]; exact Nat.le_refl _)
 refine List.eq_nil_of_length_eq_zero ?_
 show (drRA p _ _).es.length = 0
 rw [g4]; rfl
theorem trailNone (p : Prg) (l : List (List Act)) (hl : ∀ r ∈ l, ∀ a ∈ r, inR a.n) (x : Pk) : Pure prog Tabs 5 [.agg (cPrg p), cActs l, .agg (cPick x)] (tB true) := by
 refine trailNone_of p l hl x aliveR_spec fun q q1 q2 q3 q4 q5 => nil_arg (sz := 2) ?_
 have c := trailOf_spec q q1 q2 q3 q4 q5 [] (Nat.zero_le _) (fun h hm x => do_own q h hm x)
 rw [trailR_nil q q2] at c
 exact c
end Go.Proofs.YtpeifhiphfpajaaGreatDoor
