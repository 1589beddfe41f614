/-
  Walks of functions of the program, and what the laws need of them.
-/
import Derived.Test.YteegjmglkkhoeaaGreatDoorRPC
import Derived.Test.YteegjmglkkhoeaaGreatDoorRPG
import Derived.Test.YteegjmglkkhoeaaGreatDoorRPK
import Derived.Test.YteegjmglkkhoeaaGreatDoorRPO
set_option linter.all false
set_option linter.unusedSimpArgs false
set_option linter.unusedVariables false
set_option linter.unnecessarySimpa false
namespace Go.Proofs.YteegjmglkkhoeaaGreatDoor
set_option maxRecDepth 20000
open Go Go.Proofs.YteegjmglkkhoeaaGreatDoor.V Go.Proofs
def longB (l : List ByteArray) : Bool := l.any fun s => decide (60 < s.size)
def greatI (i : Ins) : Bool := if 6 < i.labels.length ∨ 60 < i.to.size then true else longB i.labels
def greatT (t : List Ins) : Bool := if 12 < t.length then true else t.any greatI
def symG (s : Sym) : Bool := decide (60 < s.name.size ∨ 66 < s.init.length)
def greatP (p : Prg) : Bool := if 66 < p.syms.length ∨ 66 < p.threads.length then true else if p.syms.any symG then true else p.threads.any greatT
section
attribute [local irreducible] TwS TwR thenT inBlockT retT
variable {G : World → Prop}
theorem greatI_spec (i : Ins) : Pure prog G 74 [.agg (cIns i)] (tB (greatI i)) := by
 refine Pure.at mixedOk F74 rfl fun C hP hG hp => goF ?_; simp only [F74, targEnv, Nat.zero_add, Nat.reduceAdd]
 have hl : (i.labels.map fun s => [tS s]).length = i.labels.length := lM ..
 by_cases hb : 6 < i.labels.length ∨ 60 < i.to.size
 ·rw [greatI, if_pos hb]
  repeat' (first | refine goR rfl ?_ | refine goS rfl ?_ | refine tret1 rfl ?_ | refine tretN rfl ?_ | refine gY rfl rfl ?_ | refine gN rfl rfl ?_ | refine qT rfl rfl ?_ | refine qF rfl rfl ?_ | ((first | refine gS rfl (fun h => ?_) (fun h => ?_) | refine ts_cond rfl (fun h => ?_) (fun h => ?_)) <;> (try simp only [bs0, beq_iff_eq] at h) <;> try (exfalso; omega; done)) | fail)
  all_goals exact .fr rfl
 rw [greatI, if_neg hb]
 repeat' (first | refine goR rfl ?_ | refine goS rfl ?_ | refine tret1 rfl ?_ | refine tretN rfl ?_ | refine gY rfl rfl ?_ | refine gN rfl rfl ?_ | refine qT rfl rfl ?_ | refine qF rfl rfl ?_ | ((first | refine gS rfl (fun h => ?_) (fun h => ?_) | refine ts_cond rfl (fun h => ?_) (fun h => ?_)) <;> (try simp only [bs0, beq_iff_eq] at h) <;> try (exfalso; omega; done)) | fail)
 refine loopS (fun m env σ => ∃ a b, i.labels = a ++ b ∧ m = b.length ∧ longB i.labels = longB b ∧ env = [(1, .p 0 0), (3, tI a.length)] ∧ σ = ⟨[(0, .cells (cIns i) 63)], 1⟩) i.labels.length ?_ ⟨[], i.labels, rfl, rfl, rfl, rfl, rfl⟩ ?_
 ·(refine w_ren [(0, 0)] rfl (by rw [hp]; intro j hj; cases hj) rfl ?_ ?_ <;> repeat' (first | exact .nil | exact .f _ rfl | exact .s _ _ _ _ _ _ rfl | exact .p _ _ _ rfl | exact .rows _ _ _ | exact .iter _ _ | exact RenL.nil _ | refine RenL.cons ?_ ?_ | refine .cells _ _ _ ?_ | refine .cons _ _ _ _ rfl ?_ ?_ | refine .cons _ _ _ _ _ rfl rfl ?_ ?_ | refine .rowsE ?_ | refine .sE rfl ?_ | exact .m _ _ rfl | refine .fE rfl ?_ | exact RenO.mB _ | exact RenO.mB [] | fail))
 rintro m env σ ⟨a, b, e, rfl, hI, rfl, rfl⟩
 have hla : i.labels.length = a.length + b.length := by rw [e, lA]
 cases b with
 | nil =>
  rw [List.length_nil] at hla
  repeat' (first | refine goR rfl ?_ | refine goS rfl ?_ | refine tret1 rfl ?_ | refine tretN rfl ?_ | refine gY rfl rfl ?_ | refine gN rfl rfl ?_ | refine qT rfl rfl ?_ | refine qF rfl rfl ?_ | refine qF rfl (dF (by rw [lM]; omega)) ?_ | fail)
  rw [hI]
  exact .fr rfl
 | cons x b =>
  have hx : i.labels[a.length]? = some x := by rw [e]; exact ix
  simp only [List.length_cons] at hla
  simp only [longB, List.any_cons] at hI
  repeat' (first | refine goR rfl ?_ | refine goS rfl ?_ | refine tret1 rfl ?_ | refine tretN rfl ?_ | refine gY rfl rfl ?_ | refine gN rfl rfl ?_ | refine qT rfl rfl ?_ | refine qF rfl rfl ?_ | refine qT rfl (dT (by rw [lM]; omega)) ?_ | refine lT (tl_ixm rfl rfl rfl hx) ?_ | ((first | refine gS rfl (fun h => ?_) (fun h => ?_) | refine ts_cond rfl (fun h => ?_) (fun h => ?_)) <;> try simp only [bs0, beq_iff_eq] at h) | fail)
  ·have : longB i.labels = true := by rw [longB, hI, dT (by omega), Bool.true_or]
   rw [this]
   exact .fr rfl
  ·refine again (m' := b.length) (Nat.lt_succ_self _) ?_ ⟨a ++ [x], b, by rw [e]; simp, rfl, by rw [longB, hI, dF (by omega), Bool.false_or]; rfl, rfl, rfl⟩
   (refine w_ren [(0, 0)] rfl (by rw [hp]; intro j hj; cases hj) rfl ?_ ?_ <;> repeat' (first | exact .nil | exact .f _ rfl | exact .s _ _ _ _ _ _ rfl | exact .p _ _ _ rfl | exact .rows _ _ _ | exact .iter _ _ | exact RenL.nil _ | refine RenL.cons ?_ ?_ | refine .cells _ _ _ ?_ | refine .cons _ _ _ _ rfl ?_ ?_ | refine .cons _ _ _ _ _ rfl rfl ?_ ?_ | refine .rowsE ?_ | refine .sE rfl ?_ | exact .m _ _ rfl | refine .fE rfl ?_ | exact RenO.mB _ | exact RenO.mB [] | fail))
   all_goals first | rfl | (rw [w64 (by omega), lA, List.length_singleton]; rfl) | (rw [lA]; rfl) | (rw [List.map_append]; rfl) | rw [lM] | rw [List.append_nil] | skip
theorem greatT_spec (t : List Ins) : Pure prog G 40 [.agg (cTh t)] (tB (greatT t)) := by
 refine Pure.at mixedOk F40 rfl fun C hP hG hp => goF ?_; simp only [F40, targEnv, Nat.zero_add, Nat.reduceAdd]
 have hl : (t.map cIns).length = t.length := lM ..
 by_cases hb : 12 < t.length
 ·rw [greatT, if_pos hb]
  repeat' (first | refine goR rfl ?_ | refine goS rfl ?_ | refine tret1 rfl ?_ | refine tretN rfl ?_ | refine gY rfl rfl ?_ | refine gN rfl rfl ?_ | refine qT rfl rfl ?_ | refine qF rfl rfl ?_ | ((first | refine gS rfl (fun h => ?_) (fun h => ?_) | refine ts_cond rfl (fun h => ?_) (fun h => ?_)) <;> (try simp only [bs0, beq_iff_eq] at h) <;> try (exfalso; omega; done)) | fail)
  all_goals exact .fr rfl
 rw [greatT, if_neg hb]
 repeat' (first | refine goR rfl ?_ | refine goS rfl ?_ | refine tret1 rfl ?_ | refine tretN rfl ?_ | refine gY rfl rfl ?_ | refine gN rfl rfl ?_ | refine qT rfl rfl ?_ | refine qF rfl rfl ?_ | ((first | refine gS rfl (fun h => ?_) (fun h => ?_) | refine ts_cond rfl (fun h => ?_) (fun h => ?_)) <;> (try simp only [bs0, beq_iff_eq] at h) <;> try (exfalso; omega; done)) | fail)
 refine loopS (fun m env σ => ∃ a b, t = a ++ b ∧ m = b.length ∧ t.any greatI = b.any greatI ∧ env = [(1, .p 0 0), (3, tI a.length)] ∧ σ = ⟨[(0, .cells (cTh t) 58)], 1⟩) t.length ?_ ⟨[], t, rfl, rfl, rfl, rfl, rfl⟩ ?_
 ·(refine w_ren [(0, 0)] rfl (by rw [hp]; intro j hj; cases hj) rfl ?_ ?_ <;> repeat' (first | exact .nil | exact .f _ rfl | exact .s _ _ _ _ _ _ rfl | exact .p _ _ _ rfl | exact .rows _ _ _ | exact .iter _ _ | exact RenL.nil _ | refine RenL.cons ?_ ?_ | refine .cells _ _ _ ?_ | refine .cons _ _ _ _ rfl ?_ ?_ | refine .cons _ _ _ _ _ rfl rfl ?_ ?_ | refine .rowsE ?_ | refine .sE rfl ?_ | exact .m _ _ rfl | refine .fE rfl ?_ | exact RenO.mB _ | exact RenO.mB [] | fail))
 rintro m env σ ⟨a, b, e, rfl, hI, rfl, rfl⟩
 have hla : t.length = a.length + b.length := by rw [e, lA]
 cases b with
 | nil =>
  rw [List.length_nil] at hla
  repeat' (first | refine goR rfl ?_ | refine goS rfl ?_ | refine tret1 rfl ?_ | refine tretN rfl ?_ | refine gY rfl rfl ?_ | refine gN rfl rfl ?_ | refine qT rfl rfl ?_ | refine qF rfl rfl ?_ | refine qF rfl (dF (by rw [lM]; omega)) ?_ | fail)
  rw [hI]
  exact .fr rfl
 | cons x b =>
  have hx : t[a.length]? = some x := by rw [e]; exact ix
  simp only [List.length_cons] at hla
  simp only [List.any_cons] at hI
  obtain ⟨g, hg⟩ : ∃ g, g = greatI x := ⟨_, rfl⟩
  have c := fun G => greatI_spec (G := G) x
  rw [← hg] at hI c
  cases g
  ·repeat' (first | refine goR rfl ?_ | refine goS rfl ?_ | refine tret1 rfl ?_ | refine tretN rfl ?_ | refine gY rfl rfl ?_ | refine gN rfl rfl ?_ | refine qT rfl rfl ?_ | refine qF rfl rfl ?_ | refine qT rfl (dT (by rw [lM]; omega)) ?_ | refine lT (tl_ixm rfl rfl rfl hx) ?_ | refine cA rfl (by rw [hP]; exact c _) rfl ?_ | fail)
   refine again (m' := b.length) (Nat.lt_succ_self _) ?_ ⟨a ++ [x], b, by rw [e]; simp, rfl, by rw [hI, Bool.false_or], rfl, rfl⟩
   (refine w_ren [(0, 0)] rfl (by rw [hp]; intro j hj; cases hj) rfl ?_ ?_ <;> repeat' (first | exact .nil | exact .f _ rfl | exact .s _ _ _ _ _ _ rfl | exact .p _ _ _ rfl | exact .rows _ _ _ | exact .iter _ _ | exact RenL.nil _ | refine RenL.cons ?_ ?_ | refine .cells _ _ _ ?_ | refine .cons _ _ _ _ rfl ?_ ?_ | refine .cons _ _ _ _ _ rfl rfl ?_ ?_ | refine .rowsE ?_ | refine .sE rfl ?_ | exact .m _ _ rfl | refine .fE rfl ?_ | exact RenO.mB _ | exact RenO.mB [] | fail))
   all_goals first | rfl | (rw [w64 (by omega), lA, List.length_singleton]; rfl) | (rw [lA]; rfl) | (rw [List.map_append]; rfl) | rw [lM] | rw [List.append_nil] | skip
  ·repeat' (first | refine goR rfl ?_ | refine goS rfl ?_ | refine tret1 rfl ?_ | refine tretN rfl ?_ | refine gY rfl rfl ?_ | refine gN rfl rfl ?_ | refine qT rfl rfl ?_ | refine qF rfl rfl ?_ | refine qT rfl (dT (by rw [lM]; omega)) ?_ | refine lT (tl_ixm rfl rfl rfl hx) ?_ | refine cA rfl (by rw [hP]; exact c _) rfl ?_ | fail)
   rw [hI, Bool.true_or]
   exact .fr rfl
theorem great_spec (p : Prg) : Pure prog G 16 [.agg (cPrg p)] (tB (greatP p)) := by
 refine Pure.at mixedOk F16 rfl fun C hP hG hp => goF ?_; simp only [F16, targEnv, Nat.zero_add, Nat.reduceAdd]
 have hl : (p.syms.map cSym).length = p.syms.length := lM ..
 have hl2 : (p.threads.map cTh).length = p.threads.length := lM ..
 by_cases hb : 66 < p.syms.length ∨ 66 < p.threads.length
 ·rw [greatP, if_pos hb]
  repeat' (first | refine goR rfl ?_ | refine goS rfl ?_ | refine tret1 rfl ?_ | refine tretN rfl ?_ | refine gY rfl rfl ?_ | refine gN rfl rfl ?_ | refine qT rfl rfl ?_ | refine qF rfl rfl ?_ | ((first | refine gS rfl (fun h => ?_) (fun h => ?_) | refine ts_cond rfl (fun h => ?_) (fun h => ?_)) <;> (try simp only [bs0, beq_iff_eq] at h) <;> try (exfalso; omega; done)) | fail)
  all_goals exact .fr rfl
 rw [greatP, if_neg hb]
 repeat' (first | refine goR rfl ?_ | refine goS rfl ?_ | refine tret1 rfl ?_ | refine tretN rfl ?_ | refine gY rfl rfl ?_ | refine gN rfl rfl ?_ | refine qT rfl rfl ?_ | refine qF rfl rfl ?_ | ((first | refine gS rfl (fun h => ?_) (fun h => ?_) | refine ts_cond rfl (fun h => ?_) (fun h => ?_)) <;> (try simp only [bs0, beq_iff_eq] at h) <;> try (exfalso; omega; done)) | fail)
 refine loopS (fun m env σ => ∃ a b, p.syms = a ++ b ∧ m = b.length ∧ p.syms.any symG = b.any symG ∧ env = [(1, .p 0 0), (3, tI a.length)] ∧ σ = ⟨[(0, .cells (cPrg p) 27)], 1⟩) p.syms.length ?_ ⟨[], p.syms, rfl, rfl, rfl, rfl, rfl⟩ ?_
 ·(refine w_ren [(0, 0)] rfl (by rw [hp]; intro j hj; cases hj) rfl ?_ ?_ <;> repeat' (first | exact .nil | exact .f _ rfl | exact .s _ _ _ _ _ _ rfl | exact .p _ _ _ rfl | exact .rows _ _ _ | exact .iter _ _ | exact RenL.nil _ | refine RenL.cons ?_ ?_ | refine .cells _ _ _ ?_ | refine .cons _ _ _ _ rfl ?_ ?_ | refine .cons _ _ _ _ _ rfl rfl ?_ ?_ | refine .rowsE ?_ | refine .sE rfl ?_ | exact .m _ _ rfl | refine .fE rfl ?_ | exact RenO.mB _ | exact RenO.mB [] | fail))
 rintro m env σ ⟨a, b, e, rfl, hI, rfl, rfl⟩
 have hla : p.syms.length = a.length + b.length := by rw [e, lA]
 cases b with
 | cons x b =>
  have hx : p.syms[a.length]? = some x := by rw [e]; exact ix
  simp only [List.length_cons] at hla
  simp only [List.any_cons] at hI
  have hxi : (x.init.map fun n => [tI n]).length = x.init.length := lM ..
  by_cases hs : 60 < x.name.size ∨ 66 < x.init.length
  ·have : symG x = true := dT hs
   rw [this, Bool.true_or] at hI
   rw [if_pos hI]
   repeat' (first | refine goR rfl ?_ | refine goS rfl ?_ | refine tret1 rfl ?_ | refine tretN rfl ?_ | refine gY rfl rfl ?_ | refine gN rfl rfl ?_ | refine qT rfl rfl ?_ | refine qF rfl rfl ?_ | refine qT rfl (dT (by rw [lM]; omega)) ?_ | refine lT (tl_ixm rfl rfl rfl hx) ?_ | ((first | refine gS rfl (fun h => ?_) (fun h => ?_) | refine ts_cond rfl (fun h => ?_) (fun h => ?_)) <;> (try simp only [bs0, beq_iff_eq] at h) <;> try (exfalso; omega; done)) | fail)
   all_goals exact .fr rfl
  ·have : symG x = false := dF hs
   rw [this, Bool.false_or] at hI
   repeat' (first | refine goR rfl ?_ | refine goS rfl ?_ | refine tret1 rfl ?_ | refine tretN rfl ?_ | refine gY rfl rfl ?_ | refine gN rfl rfl ?_ | refine qT rfl rfl ?_ | refine qF rfl rfl ?_ | refine qT rfl (dT (by rw [lM]; omega)) ?_ | refine lT (tl_ixm rfl rfl rfl hx) ?_ | ((first | refine gS rfl (fun h => ?_) (fun h => ?_) | refine ts_cond rfl (fun h => ?_) (fun h => ?_)) <;> (try simp only [bs0, beq_iff_eq] at h) <;> try (exfalso; omega; done)) | fail)
   refine again (m' := b.length) (Nat.lt_succ_self _) ?_ ⟨a ++ [x], b, by rw [e]; simp, rfl, hI, rfl, rfl⟩
   (refine w_ren [(0, 0)] rfl (by rw [hp]; intro j hj; cases hj) rfl ?_ ?_ <;> repeat' (first | exact .nil | exact .f _ rfl | exact .s _ _ _ _ _ _ rfl | exact .p _ _ _ rfl | exact .rows _ _ _ | exact .iter _ _ | exact RenL.nil _ | refine RenL.cons ?_ ?_ | refine .cells _ _ _ ?_ | refine .cons _ _ _ _ rfl ?_ ?_ | refine .cons _ _ _ _ _ rfl rfl ?_ ?_ | refine .rowsE ?_ | refine .sE rfl ?_ | exact .m _ _ rfl | refine .fE rfl ?_ | exact RenO.mB _ | exact RenO.mB [] | fail))
   all_goals first | rfl | (rw [w64 (by omega), lA, List.length_singleton]; rfl) | (rw [lA]; rfl) | (rw [List.map_append]; rfl) | rw [lM] | rw [List.append_nil] | skip
 | nil =>
  rw [List.length_nil] at hla
  rw [List.any_nil] at hI
  rw [if_neg (by rw [hI]; decide)]
  repeat' (first | refine goR rfl ?_ | refine goS rfl ?_ | refine tret1 rfl ?_ | refine tretN rfl ?_ | refine gY rfl rfl ?_ | refine gN rfl rfl ?_ | refine qT rfl rfl ?_ | refine qF rfl rfl ?_ | refine qF rfl (dF (by rw [lM]; omega)) ?_ | fail)
  refine loopS (fun m env σ => ∃ a b, p.threads = a ++ b ∧ m = b.length ∧ p.threads.any greatT = b.any greatT ∧ env = [(1, .p 0 0), (4, tI a.length)] ∧ σ = ⟨[(0, .cells (cPrg p) 27)], 1⟩) p.threads.length ?_ ⟨[], p.threads, rfl, rfl, rfl, rfl, rfl⟩ ?_
  ·(refine w_ren [(0, 0)] rfl (by rw [hp]; intro j hj; cases hj) rfl ?_ ?_ <;> repeat' (first | exact .nil | exact .f _ rfl | exact .s _ _ _ _ _ _ rfl | exact .p _ _ _ rfl | exact .rows _ _ _ | exact .iter _ _ | exact RenL.nil _ | refine RenL.cons ?_ ?_ | refine .cells _ _ _ ?_ | refine .cons _ _ _ _ rfl ?_ ?_ | refine .cons _ _ _ _ _ rfl rfl ?_ ?_ | refine .rowsE ?_ | refine .sE rfl ?_ | exact .m _ _ rfl | refine .fE rfl ?_ | exact RenO.mB _ | exact RenO.mB [] | fail))
  rintro m env σ ⟨a, b, e, rfl, hI, rfl, rfl⟩
  have hla : p.threads.length = a.length + b.length := by rw [e, lA]
  cases b with
  | nil =>
   rw [List.length_nil] at hla
   repeat' (first | refine goR rfl ?_ | refine goS rfl ?_ | refine tret1 rfl ?_ | refine tretN rfl ?_ | refine gY rfl rfl ?_ | refine gN rfl rfl ?_ | refine qT rfl rfl ?_ | refine qF rfl rfl ?_ | refine qF rfl (dF (by rw [lM]; omega)) ?_ | fail)
   rw [hI]
   exact .fr rfl
  | cons x b =>
   have hx : p.threads[a.length]? = some x := by rw [e]; exact ix
   simp only [List.length_cons] at hla
   simp only [List.any_cons] at hI
   obtain ⟨g, hg⟩ : ∃ g, g = greatT x := ⟨_, rfl⟩
   have c := fun G => greatT_spec (G := G) x
   rw [← hg] at hI c
   cases g
   ·repeat' (first | refine goR rfl ?_ | refine goS rfl ?_ | refine tret1 rfl ?_ | refine tretN rfl ?_ | refine gY rfl rfl ?_ | refine gN rfl rfl ?_ | refine qT rfl rfl ?_ | refine qF rfl rfl ?_ | refine qT rfl (dT (by rw [lM]; omega)) ?_ | refine lT (tl_ixm rfl rfl rfl hx) ?_ | refine cA rfl (by rw [hP]; exact c _) rfl ?_ | fail)
    refine again (m' := b.length) (Nat.lt_succ_self _) ?_ ⟨a ++ [x], b, by rw [e]; simp, rfl, by rw [hI, Bool.false_or], rfl, rfl⟩
    (refine w_ren [(0, 0)] rfl (by rw [hp]; intro j hj; cases hj) rfl ?_ ?_ <;> repeat' (first | exact .nil | exact .f _ rfl | exact .s _ _ _ _ _ _ rfl | exact .p _ _ _ rfl | exact .rows _ _ _ | exact .iter _ _ | exact RenL.nil _ | refine RenL.cons ?_ ?_ | refine .cells _ _ _ ?_ | refine .cons _ _ _ _ rfl ?_ ?_ | refine .cons _ _ _ _ _ rfl rfl ?_ ?_ | refine .rowsE ?_ | refine .sE rfl ?_ | exact .m _ _ rfl | refine .fE rfl ?_ | exact RenO.mB _ | exact RenO.mB [] | fail))
    all_goals first | rfl | (rw [w64 (by omega), lA, List.length_singleton]; rfl) | (rw [lA]; rfl) | (rw [List.map_append]; rfl) | rw [lM] | rw [List.append_nil] | skip
   ·repeat' (first | refine goR rfl ?_ | refine goS rfl ?_ | refine tret1 rfl ?_ | refine tretN rfl ?_ | refine gY rfl rfl ?_ | refine gN rfl rfl ?_ | refine qT rfl rfl ?_ | refine qF rfl rfl ?_ | refine qT rfl (dT (by rw [lM]; omega)) ?_ | refine lT (tl_ixm rfl rfl rfl hx) ?_ | refine cA rfl (by rw [hP]; exact c _) rfl ?_ | fail)
    rw [hI, Bool.true_or]
    exact .fr rfl
end
theorem any_no {α : Type} {l : List α} {f : α → Bool} (h : l.any f = false) : ∀ x ∈ l, f x = false := fun x hx => by
 cases hf : f x with
 | false => rfl
 | true => exact absurd (List.any_eq_true.mpr ⟨x, hx, hf⟩) (by rw [h]; decide)
theorem labs_len : ∀ {t : List Ins} {n : Nat}, (∀ i ∈ t, i.labels.length ≤ n) → (allLabs t).length ≤ t.length * n
 | [], _, _ => Nat.zero_le _
 | i :: t, n, h => by
  have h1 := h i (List.mem_cons_self ..)
  have h2 := labs_len (t := t) fun j hj => h j (List.mem_cons_of_mem _ hj)
  simp only [allLabs, List.flatMap_cons, lA, List.length_cons] at h2 ⊢
  rw [Nat.add_mul, Nat.one_mul]
  omega
theorem great_ok {p : Prg} (h : greatP p = false) : okP p := by
 unfold greatP at h
 split at h
 ·cases h
 rename_i h1
 split at h
 ·cases h
 rename_i h2
 have h2 := any_no (Bool.eq_false_iff.mpr h2)
 have h3 := any_no h
 refine ⟨by omega, fun s hs => ?_, by omega, fun t ht => ?_⟩
 ·have := of_decide_eq_false (h2 s hs)
  omega
 ·have h4 := h3 t ht
  unfold greatT at h4
  split at h4
  ·cases h4
  have h5 := any_no h4
  have h6 : ∀ i ∈ t, ¬ (6 < i.labels.length ∨ 60 < i.to.size) ∧ longB i.labels = false := fun i hi => by
   have h7 := h5 i hi
   unfold greatI at h7
   split at h7
   ·cases h7
   ·exact ⟨‹_›, h7⟩
  have h8 := labs_len (n := 6) fun i hi => by have := (h6 i hi).1; omega
  refine ⟨⟨by omega, by omega⟩, fun i hi => ?_⟩
  obtain ⟨h9, h10⟩ := h6 i hi
  refine ⟨by omega, by omega, fun l hl => ?_⟩
  have := of_decide_eq_false (any_no h10 l hl)
  omega
end Go.Proofs.YteegjmglkkhoeaaGreatDoor
namespace Go.Proofs.YteegjmglkkhoeaaGreatDoor
set_option maxRecDepth 20000
open Go Go.Proofs.YteegjmglkkhoeaaGreatDoor.V Go.Proofs
theorem st_progP : (prog.underlying 27).bind stTys = some [24, 25] := by kernel_rfl
theorem st_symP : (prog.underlying 54).bind stTys = some [9, 3, 39] := by kernel_rfl
theorem st_threadP : (prog.underlying 58).bind stTys = some [56] := by kernel_rfl
theorem st_insP : (prog.underlying 63).bind stTys = some [3, 4, 3, 60, 60, 9, 61] := by kernel_rfl
theorem st_opdP : (prog.underlying 60).bind stTys = some [3, 3, 3, 2] := by kernel_rfl
theorem un_intP : prog.underlying 3 = some (.int .i64) := by kernel_rfl
theorem un_int64P : prog.underlying 2 = some (.int .i64) := by kernel_rfl
theorem un_boolP : prog.underlying 4 = some .bool := by kernel_rfl
theorem un_stringP : prog.underlying 9 = some .string := by kernel_rfl
theorem un_symsP : prog.underlying 24 = some (.slice 54) := by kernel_rfl
theorem un_thsP : prog.underlying 25 = some (.slice 58) := by kernel_rfl
theorem un_inssP : prog.underlying 56 = some (.slice 63) := by kernel_rfl
theorem un_i64sP : prog.underlying 39 = some (.slice 2) := by kernel_rfl
theorem un_strsP : prog.underlying 61 = some (.slice 9) := by kernel_rfl
theorem ce_symP : prog.cellsOf 54 = 3 := by kernel_rfl
theorem ce_thP : prog.cellsOf 58 = 1 := by kernel_rfl
theorem ce_insP : prog.cellsOf 63 = 13 := by kernel_rfl
theorem ce_i64P : prog.cellsOf 2 = 1 := by kernel_rfl
theorem ce_strP : prog.cellsOf 9 = 1 := by kernel_rfl
theorem opd_tyP {d : Nat} {cs : List TV} (h : TyL prog (d + 2) 60 cs) : ∃ o : Opd, cs = cOpd o := by
 obtain ⟨xs, rfl, k⟩ := tl_st st_opdP h
 cases k with | cons g0 k =>
 cases k with | cons g1 k =>
 cases k with | cons g2 k =>
 cases k with | cons g3 k =>
 cases k
 obtain ⟨a0, rfl, _⟩ := tl_int un_intP g0
 obtain ⟨a1, rfl, _⟩ := tl_int un_intP g1
 obtain ⟨a2, rfl, _⟩ := tl_int un_intP g2
 obtain ⟨a3, rfl, _⟩ := tl_int un_int64P g3
 exact ⟨⟨a0, a1, a2, a3⟩, rfl⟩
theorem ins_tyP {d : Nat} {cs : List TV} (h : TyL prog (d + 3) 63 cs) : ∃ i : Ins, cs = cIns i := by
 obtain ⟨xs, rfl, k⟩ := tl_st st_insP h
 cases k with | cons g0 k =>
 cases k with | cons g1 k =>
 cases k with | cons g2 k =>
 cases k with | cons g3 k =>
 cases k with | cons g4 k =>
 cases k with | cons g5 k =>
 cases k with | cons g6 k =>
 cases k
 obtain ⟨a0, rfl, _⟩ := tl_int un_intP g0
 obtain ⟨a1, rfl⟩ := tl_bool un_boolP g1
 obtain ⟨a2, rfl, _⟩ := tl_int un_intP g2
 obtain ⟨a3, rfl⟩ := opd_tyP g3
 obtain ⟨a4, rfl⟩ := opd_tyP g4
 obtain ⟨a5, rfl, _⟩ := tl_str un_stringP g5
 obtain ⟨xs, rfl, k⟩ := tl_sli un_strsP ce_strP g6
 obtain ⟨l, rfl⟩ := map_of' (c := fun s => [tS s]) fun x hx => let ⟨s, e, _⟩ := tl_str un_stringP (k x hx); ⟨s, e⟩
 exact ⟨⟨a0, a1, a2, a3, a4, a5, l⟩, rfl⟩
theorem sym_tyP {d : Nat} {cs : List TV} (h : TyL prog (d + 3) 54 cs) : ∃ i : Sym, cs = cSym i := by
 obtain ⟨xs, rfl, k⟩ := tl_st st_symP h
 cases k with | cons g0 k =>
 cases k with | cons g1 k =>
 cases k with | cons g2 k =>
 cases k
 obtain ⟨a0, rfl, _⟩ := tl_str un_stringP g0
 obtain ⟨a1, rfl, _⟩ := tl_int un_intP g1
 obtain ⟨xs, rfl, k⟩ := tl_sli un_i64sP ce_i64P g2
 obtain ⟨l, rfl⟩ := map_of' (c := fun s => [tI s]) fun x hx => let ⟨s, e, _⟩ := tl_int un_int64P (k x hx); ⟨s, e⟩
 exact ⟨⟨a0, a1, l⟩, rfl⟩
theorem th_tyP {d : Nat} {cs : List TV} (h : TyL prog (d + 5) 58 cs) : ∃ t : List Ins, cs = cTh t := by
 obtain ⟨xs, rfl, k⟩ := tl_st st_threadP h
 cases k with | cons g0 k =>
 cases k
 obtain ⟨xs, rfl, k⟩ := tl_sli un_inssP ce_insP g0
 obtain ⟨l, rfl⟩ := map_of' (c := cIns) fun x hx => ins_tyP (k x hx)
 exact ⟨l, rfl⟩
theorem prg_tyP {d : Nat} {x : TV} (h : TyV prog (d + 7) x 27) : ∃ p : Prg, x = .agg (cPrg p) := by
 obtain ⟨cs, rfl, m⟩ := tv_agg st_progP h
 obtain ⟨xs, rfl, k⟩ := tl_st st_progP m
 cases k with | cons g0 k =>
 cases k with | cons g1 k =>
 cases k
 obtain ⟨xs, rfl, k⟩ := tl_sli un_symsP ce_symP g0
 obtain ⟨l, rfl⟩ := map_of' (c := cSym) fun x hx => sym_tyP (k x hx)
 obtain ⟨xs, rfl, k⟩ := tl_sli un_thsP ce_thP g1
 obtain ⟨t, rfl⟩ := map_of' (c := cTh) fun x hx => th_tyP (k x hx)
 exact ⟨⟨l, t⟩, rfl⟩
end Go.Proofs.YteegjmglkkhoeaaGreatDoor
namespace Go.Proofs.YteegjmglkkhoeaaGreatDoor
set_option maxRecDepth 20000
open Go Go.Proofs.YteegjmglkkhoeaaGreatDoor.V Go.Proofs
theorem st_pick6 : (prog.underlying 48).bind stTys = some [3, 4] := by kernel_rfl
theorem pick_ty {d : Nat} {x : TV} (h : TyV prog (d + 3) x 48) : ∃ a : Int × Bool, x = .agg [tI a.1, tB a.2] := by
 obtain ⟨cs, rfl, m⟩ := tv_agg st_pick6 h
 obtain ⟨ys, rfl, n⟩ := tl_st st_pick6 m
 cases n with | cons g0 n =>
 cases n with | cons g1 n =>
 cases n
 obtain ⟨a0, rfl, _⟩ := tl_int un_int g0
 obtain ⟨a1, rfl⟩ := tl_bool un_bool g1
 exact ⟨(a0, a1), rfl⟩
end Go.Proofs.YteegjmglkkhoeaaGreatDoor
namespace Go.Proofs.YteegjmglkkhoeaaGreatDoor
set_option maxRecDepth 20000
open Go Go.Proofs.YteegjmglkkhoeaaGreatDoor.V Go.Proofs
section
attribute [local irreducible] TwS TwR thenT inBlockT retT nextW localW loadedW swapW Rg.push Rg.pop
theorem expand_no (p : Prg) (ho : okP p) (hc : checkC p ≠ 0) (x : Int × Bool) : Pure prog Tabs 11 [.agg (cPrg p), .lst 2 [cPick x]] (.v (.slice none 0 0)) := by
 have c1 := make_no p ho hc
 have c2 := tnew_no p ho hc
 refine Pure.at mixedOk F11 rfl fun C hP hG hp => goF ?_; simp only [F11, targEnv, Nat.zero_add, Nat.reduceAdd]
 repeat' (first | refine goR rfl ?_ | refine goS rfl ?_ | refine tret1 rfl ?_ | refine tretN rfl ?_ | refine gY rfl rfl ?_ | refine gN rfl rfl ?_ | refine qT rfl rfl ?_ | refine qF rfl rfl ?_ | refine cA rfl (by rw [hP, hG]; exact c1) rfl ?_ | refine cA rfl (by rw [hP, hG]; exact c2) rfl ?_ | fail)
 exact .fr rfl
theorem collapse_no (p : Prg) (ho : okP p) (hc : checkC p ≠ 0) (x : Int × Bool) : Pure prog Tabs 8 [.agg (cPrg p), .lst 2 [cPick x]] (.tup [.v (.slice none 0 0), tB false]) := by
 have c2 := onew_no p ho hc
 refine Pure.at mixedOk F8 rfl fun C hP hG hp => goF ?_; simp only [F8, targEnv, Nat.zero_add, Nat.reduceAdd]
 repeat' (first | refine goR rfl ?_ | refine goS rfl ?_ | refine tret1 rfl ?_ | refine tretN rfl ?_ | refine gY rfl rfl ?_ | refine gN rfl rfl ?_ | refine qT rfl rfl ?_ | refine qF rfl rfl ?_ | refine cA rfl (by rw [hP, hG]; exact c2) rfl ?_ | fail)
 exact .fr rfl
set_option maxHeartbeats 20000000 in
theorem turnRaw (p : Prg) (x : Int × Bool) : Pure prog Tabs 5 [.agg (cPrg p), .agg [tI x.1, tB x.2]] (tB true) := by
 have g1 := fun G => great_spec (G := G) p
 have c3 := aliveT_spec
 cases hg : greatP p with
 | true =>
  rw [hg] at g1
  refine Pure.at mixedOk F5 rfl fun C hP hG hp => goF ?_; simp only [F5, targEnv, Nat.zero_add, Nat.reduceAdd]
  repeat' (first | refine goR rfl ?_ | refine goS rfl ?_ | refine tret1 rfl ?_ | refine tretN rfl ?_ | refine gY rfl rfl ?_ | refine gN rfl rfl ?_ | refine qT rfl rfl ?_ | refine qF rfl rfl ?_ | refine cA rfl (by rw [hP]; exact g1 _) rfl ?_ | refine cA rfl (by rw [hP, hG]; exact c3) rfl ?_ | fail)
  exact .fr rfl
 | false =>
  rw [hg] at g1
  have hop := great_ok hg
  have g3 := check_spec2 p hop
  by_cases hcp : checkC p = 0
  ·rw [hcp] at g3
   refine Pure.at mixedOk F5 rfl fun C hP hG hp => goF ?_; simp only [F5, targEnv, Nat.zero_add, Nat.reduceAdd]
   repeat' (first | refine goR rfl ?_ | refine goS rfl ?_ | refine tret1 rfl ?_ | refine tretN rfl ?_ | refine gY rfl rfl ?_ | refine gN rfl rfl ?_ | refine qT rfl rfl ?_ | refine qF rfl rfl ?_ | refine cA rfl (by rw [hP]; exact g1 _) rfl ?_ | refine cA rfl (by rw [hP, hG]; exact g3) rfl ?_ | refine cA rfl (by rw [hP, hG]; exact c3) rfl ?_ | fail)
   exact .fr rfl
  ·have d1 := expand_no p hop hcp x
   have d2 := collapse_no p hop hcp x
   generalize checkC p = k at g3 hcp
   refine Pure.at mixedOk F5 rfl fun C hP hG hp => goF ?_; simp only [F5, targEnv, Nat.zero_add, Nat.reduceAdd]
   repeat' (first | refine goR rfl ?_ | refine goS rfl ?_ | refine tret1 rfl ?_ | refine tretN rfl ?_ | refine gY rfl rfl ?_ | refine gN rfl rfl ?_ | refine qT rfl rfl ?_ | refine qF rfl rfl ?_ | refine cA rfl (by rw [hP]; exact g1 _) rfl ?_ | refine cA rfl (by rw [hP, hG]; exact g3) rfl ?_ | refine tr_callV hP hG (d1) rfl (by (repeat' first | exact FzL.nil | refine FzL.cons ?_ ?_ | exact Fz.fr rfl | exact Fz.nil _ | exact Fz.s _ _ _ _ _ _ rfl (lM ..).symm | exact Fz.s _ _ _ _ _ _ rfl rfl | refine Fz.pL rfl ?_ | refine Fz.aggL ?_); first | done | fail) rfl ?_ | refine tr_callV hP hG (d2) rfl (by (repeat' first | exact FzL.nil | refine FzL.cons ?_ ?_ | exact Fz.fr rfl | exact Fz.nil _ | exact Fz.s _ _ _ _ _ _ rfl (lM ..).symm | exact Fz.s _ _ _ _ _ _ rfl rfl | refine Fz.pL rfl ?_ | refine Fz.aggL ?_); first | done | fail) rfl ?_ | refine cA rfl (by rw [hP, hG]; exact c3) rfl ?_ | ((first | refine gS rfl (fun h => ?_) (fun h => ?_) | refine ts_cond rfl (fun h => ?_) (fun h => ?_)) <;> (try simp only [bs0, beq_iff_eq] at h) <;> try (exfalso; omega; done)) | fail)
   all_goals exact .fr rfl
end
end Go.Proofs.YteegjmglkkhoeaaGreatDoor
