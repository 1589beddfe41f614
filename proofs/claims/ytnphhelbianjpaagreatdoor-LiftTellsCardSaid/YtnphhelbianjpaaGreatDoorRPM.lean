/-
  Walks of functions of the program, and what the laws need of them.
-/
import Derived.Test.YtnphhelbianjpaaGreatDoorRPC
import Derived.Test.YtnphhelbianjpaaGreatDoorVI
import Derived.Test.YtnphhelbianjpaaGreatDoorRPD
import Derived.Test.YtnphhelbianjpaaGreatDoorRPL
set_option linter.all false
set_option linter.unusedSimpArgs false
set_option linter.unusedVariables false
set_option linter.unnecessarySimpa false
namespace Go.Proofs.YtnphhelbianjpaaGreatDoor
set_option maxRecDepth 20000
open Go Go.Proofs.YtnphhelbianjpaaGreatDoor.V Go.Proofs
def idxL (v : Int) : Nat → List Int → Int
 | _, [] => -1
 | k, x :: r => if v = x then (k : Int) else idxL v (k + 1) r
theorem idxL_in (v : Int) : ∀ (l : List Int) (k : Nat), 0 ≤ idxL v k l ↔ v ∈ l
 | [], k => by simp [idxL]
 | x :: r, k => by
  rw [idxL]
  by_cases h : v = x
  ·rw [if_pos h]; simp [h]
  ·rw [if_neg h, idxL_in v r (k + 1)]; simp [h]
def ordF : Option Int → List Int → Bool
 | _, [] => true
 | none, n :: r => if n < 0 ∨ n > 2147483647 then false else ordF (some n) r
 | some q, n :: r => if n < 0 ∨ n > 2147483647 ∨ n ≤ q then false else ordF (some n) r
def ptR (pts : List (List Int)) : TV := .lst 1 (pts.map fun l => [rwI l])
section
attribute [local irreducible] TwS TwR thenT inBlockT retT
variable {G : World → Prop}
set_option maxHeartbeats 20000000 in
theorem slIdx_spec (l : List Int) (hl : l.length ≤ 1000000) (v : Int) : Pure prog G 65 [rwI l, tI v] (tI (idxL v 0 l)) := by
 have hml : (l.map fun n => [tI n]).length = l.length := lM ..
 refine Pure.at mixedOk F65 rfl fun C hP hG hp => goF ?_; simp only [F65, targEnv, Nat.zero_add, Nat.reduceAdd]
 repeat' (first | refine goR rfl ?_ | refine goS rfl ?_ | refine tret1 rfl ?_ | refine tretN rfl ?_ | refine gY rfl rfl ?_ | refine gN rfl rfl ?_ | refine qT rfl rfl ?_ | refine qF rfl rfl ?_ | fail)
 refine loopS (fun m env σ => ∃ a b, l = a ++ b ∧ m = b.length ∧ idxL v 0 l = idxL v a.length b ∧ env = [(0, rwI l), (1, tI v), (7, tI (l.map fun n => [tI n]).length), (8, tI a.length)] ∧ σ = ⟨[], 60⟩) l.length (w_canon 60 [] [0, 1, 7, 8] hp rfl rfl rfl rfl) ⟨[], l, rfl, rfl, rfl, rfl, rfl⟩ ?_
 rintro m1 env σ ⟨a, b, e, rfl, hF, rfl, rfl⟩
 have hla : l.length = a.length + b.length := by rw [e, lA]
 cases b with
 | nil =>
  rw [List.length_nil] at hla
  rw [hF]
  repeat' (first | refine goR rfl ?_ | refine goS rfl ?_ | refine tret1 rfl ?_ | refine tretN rfl ?_ | refine gY rfl rfl ?_ | refine gN rfl rfl ?_ | refine qT rfl rfl ?_ | refine qF rfl rfl ?_ | refine qF rfl (dF (by omega)) ?_ | fail)
  exact .fr rfl
 | cons x b =>
  have hx : l[a.length]? = some x := by rw [e]; exact ix
  simp only [List.length_cons] at hla
  have hw1 : IntKind.i64.wrap ((a.length : Int) + 1) = ((a ++ [x]).length : Int) := by rw [w64 (by omega), lA]; rfl
  rw [idxL] at hF
  by_cases h0 : v = x
  ·rw [if_pos h0] at hF
   rw [hF]
   repeat' (first | refine goR rfl ?_ | refine goS rfl ?_ | refine tret1 rfl ?_ | refine tretN rfl ?_ | refine gY rfl rfl ?_ | refine gN rfl rfl ?_ | refine qT rfl rfl ?_ | refine qF rfl rfl ?_ | refine qT rfl (dT (by omega)) ?_ | refine qT rfl (dT h0) ?_ | refine lT (tl_ixm rfl rfl rfl hx) ?_ | fail)
   exact .fr rfl
  ·rw [if_neg h0] at hF
   repeat' (first | refine goR rfl ?_ | refine goS rfl ?_ | refine tret1 rfl ?_ | refine tretN rfl ?_ | refine gY rfl rfl ?_ | refine gN rfl rfl ?_ | refine qT rfl rfl ?_ | refine qF rfl rfl ?_ | refine qT rfl (dT (by omega)) ?_ | refine qF rfl (dF h0) ?_ | refine lT (tl_ixm rfl rfl rfl hx) ?_ | fail)
   exact again (m' := b.length) (Nat.lt_succ_self _) (w_canon 60 [] [0, 1, 7, 8] hp rfl rfl rfl rfl) ⟨a ++ [x], b, by rw [e]; simp, rfl, by rw [hF, lA]; rfl, by rw [hw1], rfl⟩
set_option maxHeartbeats 20000000 in
theorem contains_spec (l : List Int) (hl : l.length ≤ 1000000) (v : Int) : Pure prog G 30 [rwI l, tI v] (tB (decide (v ∈ l))) := by
 have c := slIdx_spec (G := G) l hl v
 have hi := idxL_in v l 0
 generalize idxL v 0 l = i at *
 by_cases h : v ∈ l
 ·have h2 := hi.2 h
  rw [show decide (v ∈ l) = decide (i ≥ 0) by rw [dT h, dT h2]]
  refine Pure.at mixedOk F30 rfl fun C hP hG hp => goF ?_; simp only [F30, targEnv, Nat.zero_add, Nat.reduceAdd]
  repeat' (first | refine goR rfl ?_ | refine goS rfl ?_ | refine tret1 rfl ?_ | refine tretN rfl ?_ | refine gY rfl rfl ?_ | refine gN rfl rfl ?_ | refine qT rfl rfl ?_ | refine qF rfl rfl ?_ | refine cA rfl (by rw [hP, hG]; exact c) rfl ?_ | fail)
  exact .fr rfl
 ·have h2 : ¬ (i ≥ 0) := fun h3 => h (hi.1 h3)
  rw [show decide (v ∈ l) = decide (i ≥ 0) by rw [dF h, dF h2]]
  refine Pure.at mixedOk F30 rfl fun C hP hG hp => goF ?_; simp only [F30, targEnv, Nat.zero_add, Nat.reduceAdd]
  repeat' (first | refine goR rfl ?_ | refine goS rfl ?_ | refine tret1 rfl ?_ | refine tretN rfl ?_ | refine gY rfl rfl ?_ | refine gN rfl rfl ?_ | refine qT rfl rfl ?_ | refine qF rfl rfl ?_ | refine cA rfl (by rw [hP, hG]; exact c) rfl ?_ | fail)
  exact .fr rfl
set_option maxHeartbeats 20000000 in
theorem wvOf_in (pts : List (List Int)) (hp0 : pts.length ≤ 1000000) {t : Nat} {l : List Int} (ht : pts[t]? = some l) : Pure prog G 64 [ptR pts, tI t] (rwI l) := by
 have hml : (pts.map fun l => [rwI l]).length = pts.length := lM ..
 have htl := (List.getElem?_eq_some_iff.1 ht).1
 refine Pure.at mixedOk F64 rfl fun C hP hG hp => goF ?_; simp only [F64, targEnv, Nat.zero_add, Nat.reduceAdd]
 repeat' (first | refine goR rfl ?_ | refine goS rfl ?_ | refine tret1 rfl ?_ | refine tretN rfl ?_ | refine gY rfl rfl ?_ | refine gN rfl rfl ?_ | refine qT rfl rfl ?_ | refine qF rfl rfl ?_ | refine qT rfl (dT (by omega)) ?_ | refine lT (tl_ixm rfl rfl rfl ht) ?_ | fail)
 exact .fr rfl
set_option maxHeartbeats 20000000 in
theorem wvOf_out (pts : List (List Int)) (hp0 : pts.length ≤ 1000000) {t : Nat} (ht : pts.length ≤ t) : Pure prog G 64 [ptR pts, tI t] (rwI []) := by
 have hml : (pts.map fun l => [rwI l]).length = pts.length := lM ..
 refine Pure.at mixedOk F64 rfl fun C hP hG hp => goF ?_; simp only [F64, targEnv, Nat.zero_add, Nat.reduceAdd]
 repeat' (first | refine goR rfl ?_ | refine goS rfl ?_ | refine tret1 rfl ?_ | refine tretN rfl ?_ | refine gY rfl rfl ?_ | refine gN rfl rfl ?_ | refine qT rfl rfl ?_ | refine qF rfl rfl ?_ | refine qF rfl (dF (by omega)) ?_ | fail)
 exact .nil 1
theorem wvOf_spec (pts : List (List Int)) (hp0 : pts.length ≤ 1000000) (t : Nat) : Pure prog G 64 [ptR pts, tI t] (rwI (pts.getD t [])) := by
 rw [List.getD_eq_getElem?_getD]
 cases h : pts[t]? with
 | some l => exact wvOf_in pts hp0 h
 | none => exact wvOf_out pts hp0 (List.getElem?_eq_none_iff.1 h)
set_option maxHeartbeats 20000000 in
theorem point_spec (pts : List (List Int)) (hp0 : pts.length ≤ 1000000) (hp1 : ∀ l ∈ pts, l.length ≤ 1000000) (t : Nat) (pc : Int) : Pure prog G 29 [tI t, tI pc, .fp [ptR pts] 0] (tB (decide (pc ∈ pts.getD t []))) := by
 have hml : (pts.map fun l => [rwI l]).length = pts.length := lM ..
 by_cases ht : t < pts.length
 ·have hx : pts[t]? = some pts[t] := List.getElem?_eq_getElem ht
  have c := contains_spec (G := G) pts[t] (hp1 _ (List.getElem_mem ht)) pc
  rw [List.getD_eq_getElem?_getD, hx, Option.getD_some]
  generalize pts[t] = l at *
  refine Pure.at mixedOk F29 rfl fun C hP hG hp => goF ?_; simp only [F29, targEnv, Nat.zero_add, Nat.reduceAdd]
  repeat' (first | refine goR rfl ?_ | refine goS rfl ?_ | refine tret1 rfl ?_ | refine tretN rfl ?_ | refine gY rfl rfl ?_ | refine gN rfl rfl ?_ | refine qT rfl rfl ?_ | refine qF rfl rfl ?_ | refine tg_t rfl (dT (by omega)) ?_ | refine lT (tl_ixm rfl rfl rfl hx) ?_ | refine cA rfl (by rw [hP, hG]; exact c) rfl ?_ | fail)
  exact .fr rfl
 ·rw [List.getD_eq_getElem?_getD, List.getElem?_eq_none (by omega), Option.getD_none, dF List.not_mem_nil]
  refine Pure.at mixedOk F29 rfl fun C hP hG hp => goF ?_; simp only [F29, targEnv, Nat.zero_add, Nat.reduceAdd]
  repeat' (first | refine goR rfl ?_ | refine goS rfl ?_ | refine tret1 rfl ?_ | refine tretN rfl ?_ | refine gY rfl rfl ?_ | refine gN rfl rfl ?_ | refine qT rfl rfl ?_ | refine qF rfl rfl ?_ | refine tg_f rfl (dF (by omega)) ?_ | fail)
  exact .fr rfl
theorem getLast_snoc {α : Type} (a : List α) (x : α) : (a ++ [x]).getLast? = some x := List.getLast?_concat
set_option maxHeartbeats 20000000 in
theorem wvOrd_spec (l : List Int) (hl : l.length ≤ 1000000) : Pure prog G 62 [rwI l] (tB (ordF none l)) := by
 have hml : (l.map fun n => [tI n]).length = l.length := lM ..
 refine Pure.at mixedOk F62 rfl fun C hP hG hp => goF ?_; simp only [F62, targEnv, Nat.zero_add, Nat.reduceAdd]
 repeat' (first | refine goR rfl ?_ | refine goS rfl ?_ | refine tret1 rfl ?_ | refine tretN rfl ?_ | refine gY rfl rfl ?_ | refine gN rfl rfl ?_ | refine qT rfl rfl ?_ | refine qF rfl rfl ?_ | fail)
 refine loopS (fun m env σ => ∃ a b, l = a ++ b ∧ m = b.length ∧ ordF none l = ordF a.getLast? b ∧ env = [(0, rwI l), (5, rwI l), (6, tI (l.map fun n => [tI n]).length), (7, tI a.length)] ∧ σ = ⟨[], 60⟩) l.length (w_canon 60 [] [0, 5, 6, 7] hp rfl rfl rfl rfl) ⟨[], l, rfl, rfl, rfl, rfl, rfl⟩ ?_
 rintro m1 env σ ⟨a, b, e, rfl, hF, rfl, rfl⟩
 have hla : l.length = a.length + b.length := by rw [e, lA]
 cases b with
 | nil =>
  rw [List.length_nil] at hla
  have hF : ordF none l = true := by rw [hF]; cases a.getLast? <;> rfl
  rw [hF]
  repeat' (first | refine goR rfl ?_ | refine goS rfl ?_ | refine tret1 rfl ?_ | refine tretN rfl ?_ | refine gY rfl rfl ?_ | refine gN rfl rfl ?_ | refine qT rfl rfl ?_ | refine qF rfl rfl ?_ | refine qF rfl (dF (by omega)) ?_ | fail)
  exact .fr rfl
 | cons x b =>
  have hx : l[a.length]? = some x := by rw [e]; exact ix
  simp only [List.length_cons] at hla
  have hw1 : IntKind.i64.wrap ((a.length : Int) + 1) = ((a ++ [x]).length : Int) := by rw [w64 (by omega), lA]; rfl
  have hnx : ∀ h : ordF none l = ordF (some x) b, ordF none l = ordF (a ++ [x]).getLast? b := fun h => by rw [h, getLast_snoc]
  by_cases h1 : x < 0
  ·have hF : ordF none l = false := by
    rw [hF]; cases a.getLast? <;> (rw [ordF, if_pos (.inl h1)])
   rw [hF]
   repeat' (first | refine goR rfl ?_ | refine goS rfl ?_ | refine tret1 rfl ?_ | refine tretN rfl ?_ | refine gY rfl rfl ?_ | refine gN rfl rfl ?_ | refine qT rfl rfl ?_ | refine qF rfl rfl ?_ | refine qT rfl (dT (by omega)) ?_ | refine tg_t rfl (dT (by omega)) ?_ | refine tg_f rfl (dF (by omega)) ?_ | refine lT (tl_ixm rfl rfl rfl hx) ?_ | ((first | refine gS rfl (fun h => ?_) (fun h => ?_) | refine ts_cond rfl (fun h => ?_) (fun h => ?_)) <;> (try simp only [bs0, beq_iff_eq] at h) <;> try (exfalso; omega; done)) | fail)
   all_goals exact .fr rfl
  by_cases h2 : x > 2147483647
  ·have hF : ordF none l = false := by
    rw [hF]; cases a.getLast? with
    | none => rw [ordF, if_pos (.inr h2)]
    | some q => rw [ordF, if_pos (.inr (.inl h2))]
   rw [hF]
   repeat' (first | refine goR rfl ?_ | refine goS rfl ?_ | refine tret1 rfl ?_ | refine tretN rfl ?_ | refine gY rfl rfl ?_ | refine gN rfl rfl ?_ | refine qT rfl rfl ?_ | refine qF rfl rfl ?_ | refine qT rfl (dT (by omega)) ?_ | refine tg_t rfl (dT (by omega)) ?_ | refine tg_f rfl (dF (by omega)) ?_ | refine lT (tl_ixm rfl rfl rfl hx) ?_ | ((first | refine gS rfl (fun h => ?_) (fun h => ?_) | refine ts_cond rfl (fun h => ?_) (fun h => ?_)) <;> (try simp only [bs0, beq_iff_eq] at h) <;> try (exfalso; omega; done)) | fail)
   all_goals exact .fr rfl
  rcases List.eq_nil_or_concat a with rfl | ⟨a', q, rfl⟩
  ·have hF : ordF none l = ordF (some x) b := by
    rw [hF]; show ordF none (x :: b) = _; rw [ordF, if_neg (by omega)]
   repeat' (first | refine goR rfl ?_ | refine goS rfl ?_ | refine tret1 rfl ?_ | refine tretN rfl ?_ | refine gY rfl rfl ?_ | refine gN rfl rfl ?_ | refine qT rfl rfl ?_ | refine qF rfl rfl ?_ | refine qT rfl (dT (by omega)) ?_ | refine tg_t rfl (dT (by omega)) ?_ | refine tg_f rfl (dF (by omega)) ?_ | refine lT (tl_ixm rfl rfl rfl hx) ?_ | ((first | refine gS rfl (fun h => ?_) (fun h => ?_) | refine ts_cond rfl (fun h => ?_) (fun h => ?_)) <;> (try simp only [bs0, beq_iff_eq] at h) <;> try (exfalso; omega; done)) | fail)
   all_goals exact again (m' := b.length) (Nat.lt_succ_self _) (w_canon 60 [] [0, 5, 6, 7] hp rfl rfl rfl rfl) ⟨[] ++ [x], b, by rw [e]; simp, rfl, hnx hF, by rw [hw1], rfl⟩
  ·rw [List.concat_eq_append, getLast_snoc] at hF
   rw [List.concat_eq_append] at hx hnx hw1 e
   rw [List.concat_eq_append]
   have hal : (a' ++ [q]).length = a'.length + 1 := by rw [lA]; rfl
   rw [List.concat_eq_append, hal] at hla
   rw [hal] at hx hw1
   rw [hal]
   have hq : l[a'.length]? = some q := by rw [e, List.append_assoc]; exact ix
   have hw2 : IntKind.i64.wrap (((a'.length + 1 : Nat) : Int) - 1) = (a'.length : Int) := by rw [w64 (by omega)]; omega
   by_cases h3 : x ≤ q
   ·have hF : ordF none l = false := by rw [hF, ordF, if_pos (.inr (.inr h3))]
    rw [hF]
    repeat' (first | refine goR rfl ?_ | refine goS rfl ?_ | refine tret1 rfl ?_ | refine tretN rfl ?_ | refine gY rfl rfl ?_ | refine gN rfl rfl ?_ | refine qT rfl rfl ?_ | refine qF rfl rfl ?_ | refine qT rfl (dT (by omega)) ?_ | refine tg_t rfl (dT (by omega)) ?_ | refine tg_f rfl (dF (by omega)) ?_ | refine lT (tl_ixm rfl rfl rfl hx) ?_ | refine lT (tl_ixm (m := a'.length) rfl rfl hw2 hq) ?_ | ((first | refine gS rfl (fun h => ?_) (fun h => ?_) | refine ts_cond rfl (fun h => ?_) (fun h => ?_)) <;> (try simp only [bs0, beq_iff_eq] at h) <;> try (exfalso; omega; done)) | fail)
    all_goals exact .fr rfl
   ·have hF : ordF none l = ordF (some x) b := by rw [hF, ordF, if_neg (by omega)]
    repeat' (first | refine goR rfl ?_ | refine goS rfl ?_ | refine tret1 rfl ?_ | refine tretN rfl ?_ | refine gY rfl rfl ?_ | refine gN rfl rfl ?_ | refine qT rfl rfl ?_ | refine qF rfl rfl ?_ | refine qT rfl (dT (by omega)) ?_ | refine tg_t rfl (dT (by omega)) ?_ | refine tg_f rfl (dF (by omega)) ?_ | refine qF rfl (dF (by omega)) ?_ | refine lT (tl_ixm rfl rfl rfl hx) ?_ | refine lT (tl_ixm (m := a'.length) rfl rfl hw2 hq) ?_ | ((first | refine gS rfl (fun h => ?_) (fun h => ?_) | refine ts_cond rfl (fun h => ?_) (fun h => ?_)) <;> (try simp only [bs0, beq_iff_eq] at h) <;> try (exfalso; omega; done)) | fail)
    all_goals exact again (m' := b.length) (Nat.lt_succ_self _) (w_canon 60 [] [0, 5, 6, 7] hp rfl rfl rfl rfl) ⟨(a' ++ [q]) ++ [x], b, by rw [e]; simp, rfl, hnx hF, by rw [hw1], rfl⟩
end
end Go.Proofs.YtnphhelbianjpaaGreatDoor
namespace Go.Proofs.YtnphhelbianjpaaGreatDoor
set_option maxRecDepth 20000
open Go Go.Proofs.YtnphhelbianjpaaGreatDoor.V Go.Proofs
section
attribute [local irreducible] TwS TwR thenT inBlockT retT
variable {G : World → Prop}
set_option maxHeartbeats 20000000 in
theorem copyV_own (p : Prg) (hp : okP p) : TC prog G 63 [.agg (cPrg p)] ⟨[], 0⟩ [] (fun v σ' => v = .agg [.lst 3 (p.syms.map cSym), .s 0 1 0 p.threads.length true] ∧ σ' = ⟨[(0, .rows 1 (p.threads.map cTh) 69)], 60⟩) := by
 obtain ⟨h1, h2, h3, h4⟩ := hp
 refine TC.at mixedOk F63 rfl fun C hP hG hp => goF ?_; simp only [F63, targEnv, Nat.zero_add, Nat.reduceAdd]
 repeat' (first | refine goR rfl ?_ | refine goS rfl ?_ | refine tret1 rfl ?_ | refine tretN rfl ?_ | refine gY rfl rfl ?_ | refine gN rfl rfl ?_ | refine qT rfl rfl ?_ | refine qF rfl rfl ?_ | fail)
 refine loopS (fun m env σ => ∃ a b, p.syms = a ++ b ∧ m = b.length ∧ env = [(1, .p 0 0), (2, .p 1 0), (3, .p 2 0), (12, .lst 3 (p.syms.map cSym)), (13, tI (p.syms.map cSym).length), (14, tI a.length)] ∧
  σ = ⟨[(0, .cells (cPrg p) 28), (1, .cells [.v (.slice none 0 0), .v (.slice none 0 0)] 28), (2, .cells [.s 3 3 0 a.length true, .v (.slice none 0 0)] 28), (3, .rows 3 (a.map cSym) 65)], 60⟩) p.syms.length
  ((w_virtC (j := 2) (i := 0) 3 65 rfl rfl).trans (w_canon 60 [] [1, 2, 3, 12, 13, 14] hp rfl rfl rfl rfl)) ⟨[], p.syms, rfl, rfl, rfl, rfl⟩ ?_
 rintro m env σ ⟨a, b, e, rfl, rfl, rfl⟩
 have hla : p.syms.length = a.length + b.length := by rw [e, lA]
 have hls : (p.syms.map cSym).length = p.syms.length := lM ..
 cases b with
 | cons x b =>
  have hx : p.syms[a.length]? = some x := by rw [e]; exact ix
  simp only [List.length_cons] at hla
  have hxs := h2 x (by rw [e]; simp)
  have hxi : (x.init.map fun n => [tI n]).length = x.init.length := lM ..
  have hw1 : IntKind.i64.wrap ((a.length : Int) + 1) = ((a ++ [x]).length : Int) := by rw [w64 (by omega), lA]; rfl
  repeat' (first | refine goR rfl ?_ | refine goS rfl ?_ | refine tret1 rfl ?_ | refine tretN rfl ?_ | refine gY rfl rfl ?_ | refine gN rfl rfl ?_ | refine qT rfl rfl ?_ | refine qF rfl rfl ?_ | refine qT rfl (dT (by omega)) ?_ | refine lT (tl_ixm rfl rfl rfl hx) ?_ | refine tr_appF rfl rfl rfl (.inl rfl) (by omega) rfl ?_ | refine tr_append rfl rfl (by rw [lM]) (.inr (.inr ⟨_, _, _, _, rfl, rfl, rfl⟩)) (by simp only [List.length_cons, List.length_nil]; omega) rfl ?_ | fail)
  refine again (m' := b.length) (Nat.lt_succ_self _) (w_canon 60 [] [1, 2, 3, 12, 13, 14] hp rfl rfl rfl rfl) ⟨a ++ [x], b, by rw [e]; simp, rfl, by rw [hw1], by rw [List.map_append, lA]; rfl⟩
 | nil =>
  rw [List.length_nil] at hla
  rw [List.append_nil] at e
  repeat' (first | refine goR rfl ?_ | refine goS rfl ?_ | refine tret1 rfl ?_ | refine tretN rfl ?_ | refine gY rfl rfl ?_ | refine gN rfl rfl ?_ | refine qT rfl rfl ?_ | refine qF rfl rfl ?_ | refine qF rfl (dF (by omega)) ?_ | fail)
  refine loopS (fun m env σ => ∃ a b, p.threads = a ++ b ∧ m = b.length ∧ env = [(2, .p 0 0), (3, .p 1 0), (31, .lst 1 (p.threads.map cTh)), (32, tI (p.threads.map cTh).length), (33, tI a.length)] ∧
   σ = ⟨[(0, .cells [.v (.slice none 0 0), .v (.slice none 0 0)] 28), (1, .cells [.lst 3 (p.syms.map cSym), .s 2 1 0 a.length true] 28), (2, .rows 1 (a.map cTh) 69)], 60⟩) p.threads.length
   ((w_freezeC (j := 2) (i := 0) (k := 3) rfl rfl rfl (by decide) (.s _ _ (by rw [lM]))).trans ((w_virtC (j := 2) (i := 1) 1 69 rfl rfl).trans (w_canon 60 [] [2, 3, 31, 32, 33] hp rfl rfl rfl rfl))) ⟨[], p.threads, rfl, rfl, rfl, by rw [← e]; rfl⟩ ?_
  rintro m env σ ⟨a, b, e2, rfl, rfl, rfl⟩
  have hla2 : p.threads.length = a.length + b.length := by rw [e2, lA]
  have hlt : (p.threads.map cTh).length = p.threads.length := lM ..
  cases b with
  | nil =>
   rw [List.length_nil] at hla2
   rw [List.append_nil] at e2
   repeat' (first | refine goR rfl ?_ | refine goS rfl ?_ | refine tret1 rfl ?_ | refine tretN rfl ?_ | refine gY rfl rfl ?_ | refine gN rfl rfl ?_ | refine qT rfl rfl ?_ | refine qF rfl rfl ?_ | refine qF rfl (dF (by omega)) ?_ | fail)
   rw [← e2]
   exact tretX 60 [] rfl hp rfl rfl rfl rfl ⟨rfl, rfl⟩
  | cons x b =>
   have hx : p.threads[a.length]? = some x := by rw [e2]; exact ix
   simp only [List.length_cons] at hla2
   have hxs := h4 x (by rw [e2]; simp)
   have hw1 : IntKind.i64.wrap ((a.length : Int) + 1) = ((a ++ [x]).length : Int) := by rw [w64 (by omega), lA]; rfl
   repeat' (first | refine goR rfl ?_ | refine goS rfl ?_ | refine tret1 rfl ?_ | refine tretN rfl ?_ | refine gY rfl rfl ?_ | refine gN rfl rfl ?_ | refine qT rfl rfl ?_ | refine qF rfl rfl ?_ | refine qT rfl (dT (by omega)) ?_ | refine lT (tl_ixm rfl rfl rfl hx) ?_ | fail)
   refine loopS (fun m env σ => ∃ c d, x = c ++ d ∧ m = d.length ∧ env = [(2, .p 0 0), (3, .p 1 0), (8, .p 3 0), (31, .lst 1 (p.threads.map cTh)), (32, tI (p.threads.map cTh).length), (33, tI a.length), (38, .lst 13 (x.map cIns)), (39, tI (x.map cIns).length), (40, tI c.length)] ∧
    σ = ⟨[(0, .cells [.v (.slice none 0 0), .v (.slice none 0 0)] 28), (1, .cells [.lst 3 (p.syms.map cSym), .s 2 1 0 a.length true] 28), (2, .rows 1 (a.map cTh) 69),
     (3, .cells [.s 4 13 0 c.length true] 69), (4, .rows 13 (c.map cIns) 74)], 60⟩) x.length ((w_virtC (j := 61) (i := 0) 13 74 rfl rfl).trans (w_canon 60 [] [2, 3, 8, 31, 32, 33, 38, 39, 40] hp rfl rfl rfl rfl)) ⟨[], x, rfl, rfl, rfl, rfl⟩ ?_
   rintro m env σ ⟨c, d, e3, rfl, rfl, rfl⟩
   have hlc : x.length = c.length + d.length := by rw [e3, lA]
   have hlx : (x.map cIns).length = x.length := lM ..
   have hxl := hxs.1.1
   cases d with
   | nil =>
    rw [List.length_nil] at hlc
    rw [List.append_nil] at e3
    refine ts_weak (w_freezeC (j := 3) (i := 0) (k := 4) rfl rfl rfl (by decide) (.s _ _ (by rw [lM]))) ?_
    repeat' (first | refine goR rfl ?_ | refine goS rfl ?_ | refine tret1 rfl ?_ | refine tretN rfl ?_ | refine gY rfl rfl ?_ | refine gN rfl rfl ?_ | refine qT rfl rfl ?_ | refine qF rfl rfl ?_ | refine qF rfl (dF (by omega)) ?_ | refine tr_append rfl rfl (by rw [lM]) (.inr (.inr ⟨_, _, _, _, rfl, rfl, rfl⟩)) (by simp only [List.length_cons, List.length_nil]; omega) rfl ?_ | fail)
    refine again (m' := b.length) (Nat.lt_succ_self _) (w_canon 60 [] [2, 3, 31, 32, 33] hp rfl rfl rfl rfl) ⟨a ++ [x], b, by rw [e2]; simp, rfl, by rw [hw1], by rw [List.map_append, lA, e3]; rfl⟩
   | cons y d =>
    have hy : x[c.length]? = some y := by rw [e3]; exact ix
    simp only [List.length_cons] at hlc
    have hys := (hxs.2 y (by rw [e3]; simp)).2.1
    have hym : (y.labels.map fun s => [tS s]).length = y.labels.length := lM ..
    have hw2 : IntKind.i64.wrap ((c.length : Int) + 1) = ((c ++ [y]).length : Int) := by rw [w64 (by omega), lA]; rfl
    repeat' (first | refine goR rfl ?_ | refine goS rfl ?_ | refine tret1 rfl ?_ | refine tretN rfl ?_ | refine gY rfl rfl ?_ | refine gN rfl rfl ?_ | refine qT rfl rfl ?_ | refine qF rfl rfl ?_ | refine qT rfl (dT (by omega)) ?_ | refine lT (tl_ixm rfl rfl rfl hy) ?_ | refine tr_appF rfl rfl rfl (.inl rfl) (by omega) rfl ?_ | refine tr_append rfl rfl (by rw [lM]) (.inr (.inr ⟨_, _, _, _, rfl, rfl, rfl⟩)) (by simp only [List.length_cons, List.length_nil]; omega) rfl ?_ | fail)
    refine again (m' := d.length) (Nat.lt_succ_self _) (w_canon 60 [] [2, 3, 8, 31, 32, 33, 38, 39, 40] hp rfl rfl rfl rfl) ⟨c ++ [y], d, by rw [e3]; simp, rfl, by rw [hw2], by rw [List.map_append, lA]; rfl⟩
end
end Go.Proofs.YtnphhelbianjpaaGreatDoor
namespace Go.Proofs.YtnphhelbianjpaaGreatDoor
set_option maxRecDepth 20000
open Go Go.Proofs.YtnphhelbianjpaaGreatDoor.V Go.Proofs
theorem ord_some : ∀ {l : List Int} {q : Int}, ordF (some q) l = true → List.Pairwise (fun a b => a < b) l ∧ (∀ a ∈ l, 0 ≤ a) ∧ ∀ a ∈ l, q < a
 | [], _, _ => ⟨.nil, fun a h => by (cases h), fun a h => by (cases h)⟩
 | n :: r, q, h => by
  rw [ordF] at h
  split at h
  ·cases h
  ·rename_i hn
   obtain ⟨h1, h2, h3⟩ := ord_some h
   refine ⟨List.pairwise_cons.2 ⟨h3, h1⟩, fun a ha => ?_, fun a ha => ?_⟩
   ·rcases List.mem_cons.1 ha with rfl | ha
    ·omega
    ·exact h2 a ha
   ·rcases List.mem_cons.1 ha with rfl | ha
    ·omega
    ·have := h3 a ha; omega
theorem ord_rises : ∀ {l : List Int}, ordF none l = true → rises l
 | [], _ => ⟨.nil, fun a h => by (cases h)⟩
 | n :: r, h => by
  rw [ordF] at h
  split at h
  ·cases h
  ·rename_i hn
   obtain ⟨h1, h2, h3⟩ := ord_some h
   refine ⟨List.pairwise_cons.2 ⟨h3, h1⟩, fun a ha => ?_⟩
   rcases List.mem_cons.1 ha with rfl | ha
   ·omega
   ·exact h2 a ha
def remN (l : List Int) (k : Nat) : List Int := l.filter fun a => decide ((k : Int) ≤ a)
theorem remN_zero {l : List Int} (h : rises l) : remN l 0 = l := List.filter_eq_self.2 fun a ha => dT (h.2 a ha)
theorem remN_out {l : List Int} {k : Nat} (h : (k : Int) ∉ l) : remN l (k + 1) = remN l k := List.filter_congr fun a ha => by
 have : a ≠ (k : Int) := fun e => h (e ▸ ha)
 exact decide_eq_decide.2 (by omega)
theorem remN_hd {l : List Int} {k : Nat} (h : (k : Int) ∉ l) {x : Int} {r : List Int} (e : remN l k = x :: r) : x ≠ (k : Int) := fun e2 => by
 have : x ∈ remN l k := by rw [e]; exact List.mem_cons_self ..
 exact h (e2 ▸ (List.mem_filter.1 this).1)
theorem remN_in : ∀ {l : List Int} (_ : List.Pairwise (fun a b => a < b) l) {k : Nat}, (k : Int) ∈ l → remN l k = (k : Int) :: remN l (k + 1)
 | [], _, _, h => by cases h
 | x :: l, hp, k, h => by
  obtain ⟨p1, p2⟩ := List.pairwise_cons.1 hp
  by_cases e : x = (k : Int)
  ·subst e
   have h1 : remN ((k : Int) :: l) k = (k : Int) :: remN l k := List.filter_cons_of_pos (by simp)
   have h2 : remN ((k : Int) :: l) (k + 1) = remN l (k + 1) := List.filter_cons_of_neg (by simp; omega)
   rw [h1, h2]
   have : (k : Int) ∉ l := fun h => by have := p1 _ h; omega
   rw [remN_out this]
  ·have hk : (k : Int) ∈ l := (List.mem_cons.1 h).resolve_left (fun e2 => e e2.symm)
   have hx := p1 _ hk
   have h1 : remN (x :: l) k = remN l k := List.filter_cons_of_neg (by simp; omega)
   have h2 : remN (x :: l) (k + 1) = remN l (k + 1) := List.filter_cons_of_neg (by simp; omega)
   rw [h1, h2]
   exact remN_in p2 hk
theorem wvL_snoc (l : List Int) : ∀ (c : List Ins) (k : Nat) (y : Ins), wvL l k (c ++ [y]) = wvL l k c ++ (if ((k + c.length : Nat) : Int) ∈ l then [fenI y.labels, bareI y] else [y])
 | [], k, y => by
  show wvL l k [y] = [] ++ _
  rw [wvL]
  show _ = [] ++ (if ((k : Nat) : Int) ∈ l then _ else _)
  split <;> rfl
 | z :: c, k, y => by
  show wvL l k (z :: (c ++ [y])) = _
  rw [wvL, wvL, wvL_snoc l c (k + 1) y, show k + 1 + c.length = k + (z :: c).length by rw [List.length_cons]; omega]
  split <;> rfl
def mixT (pts : List (List Int)) (ts : List (List Ins)) (k : Nat) : List (List Ins) := (wvT pts ts).take k ++ ts.drop k
theorem mix_0 (pts : List (List Int)) (ts : List (List Ins)) : mixT pts ts 0 = ts := rfl
theorem mix_n (pts : List (List Int)) (ts : List (List Ins)) : mixT pts ts ts.length = wvT pts ts := by
 unfold mixT
 rw [List.drop_length, List.append_nil, List.take_of_length_le (by rw [wvT_len]; exact Nat.le_refl _)]
theorem mix_len (pts : List (List Int)) (ts : List (List Ins)) {k : Nat} (h : k ≤ ts.length) : (mixT pts ts k).length = ts.length := by
 unfold mixT; rw [lA, List.length_take, List.length_drop, wvT_len]; omega
theorem mix_get (pts : List (List Int)) {ts : List (List Ins)} {k : Nat} {x : List Ins} (h : ts[k]? = some x) : (mixT pts ts k)[k]? = some x := by
 have hk := (List.getElem?_eq_some_iff.1 h).1
 have hl : ((wvT pts ts).take k).length = k := by rw [List.length_take, wvT_len]; omega
 unfold mixT
 rw [List.getElem?_append_right (by rw [hl]; exact Nat.le_refl _), hl, Nat.sub_self, List.getElem?_drop, Nat.add_zero]
 exact h
theorem mix_set (pts : List (List Int)) {ts : List (List Ins)} {k : Nat} {x : List Ins} (h : ts[k]? = some x) : (mixT pts ts k).set k (wvL (pts.getD k []) 0 x) = mixT pts ts (k + 1) := by
 have hk := (List.getElem?_eq_some_iff.1 h).1
 have hl : ((wvT pts ts).take k).length = k := by rw [List.length_take, wvT_len]; omega
 have hw : (wvT pts ts)[k]? = some (wvL (pts.getD k []) 0 x) := by rw [wvT_get, h]; rfl
 unfold mixT
 rw [List.set_append, if_neg (by rw [hl]; exact Nat.lt_irrefl _), hl, Nat.sub_self, List.drop_eq_getElem_cons hk, List.set_cons_zero, List.take_add_one, hw, List.append_assoc]
 rfl
def lastOk (l : List Int) (n : Nat) : Bool := match l.getLast? with
 | none => true
 | some q => decide (q < n)
def inL : List (List Int) → List (List Ins) → Bool
 | [], _ => true
 | l :: ls, t :: ts => (ordF none l && lastOk l t.length) && inL ls ts
 | _ :: _, [] => false
def nil2 : TV := .agg [.v (.slice none 0 0), .v (.slice none 0 0)]
section
attribute [local irreducible] TwS TwR thenT inBlockT retT
set_option maxHeartbeats 20000000 in
theorem weaveIn_no (p : Prg) (ho : okP p) (pts : List (List Int)) (hp0 : pts.length ≤ 1000000) (h : checkC p ≠ 0 ∨ pts.length > p.threads.length) : Pure prog Tabs 28 [.agg (cPrg p), ptR pts] (.tup [nil2, tB false]) := by
 have c1 := check_spec p ho
 have hml : (pts.map fun l => [rwI l]).length = pts.length := lM ..
 have hmt : (p.threads.map cTh).length = p.threads.length := lM ..
 have ho3 := ho.2.2.1
 by_cases hc : checkC p = 0
 ·rw [hc] at c1
  have hl : pts.length > p.threads.length := h.resolve_left (fun h => h hc)
  refine Pure.at mixedOk F28 rfl fun C hP hG hp => goF ?_; simp only [F28, targEnv, Nat.zero_add, Nat.reduceAdd]
  repeat' (first | refine goR rfl ?_ | refine goS rfl ?_ | refine tret1 rfl ?_ | refine tretN rfl ?_ | refine gY rfl rfl ?_ | refine gN rfl rfl ?_ | refine qT rfl rfl ?_ | refine qF rfl rfl ?_ | refine cA rfl (by rw [hP, hG]; exact c1) rfl ?_ | refine qT rfl (dT (by omega)) ?_ | fail)
  exact .tupL (.cons (.aggL (.cons (.f _ rfl) (.cons (.f _ rfl) .nil))) (.cons (.f _ rfl) .nil))
 ·refine Pure.at mixedOk F28 rfl fun C hP hG hp => goF ?_; simp only [F28, targEnv, Nat.zero_add, Nat.reduceAdd]
  repeat' (first | refine goR rfl ?_ | refine goS rfl ?_ | refine tret1 rfl ?_ | refine tretN rfl ?_ | refine gY rfl rfl ?_ | refine gN rfl rfl ?_ | refine qT rfl rfl ?_ | refine qF rfl rfl ?_ | refine cA rfl (by rw [hP, hG]; exact c1) rfl ?_ | ((first | refine gS rfl (fun h => ?_) (fun h => ?_) | refine ts_cond rfl (fun h => ?_) (fun h => ?_)) <;> (try simp only [bs0, beq_iff_eq] at h) <;> try (exfalso; first | omega | exact hc h | exact h hc | exact hc (of_decide_eq_true h); done)) | fail)
  all_goals exact .tupL (.cons (.aggL (.cons (.f _ rfl) (.cons (.f _ rfl) .nil))) (.cons (.f _ rfl) .nil))
set_option maxHeartbeats 20000000 in
theorem weaveIn_spec (p : Prg) (ho : okP p) (hc : checkC p = 0) (hb : ∀ t ∈ p.threads, t.length ≤ 100000) (pts : List (List Int)) (hp0 : pts.length ≤ p.threads.length) (hp1 : ∀ l ∈ pts, l.length ≤ 1000000) :
  Pure prog Tabs 28 [.agg (cPrg p), ptR pts] (if inL pts p.threads = true then .tup [.agg (cPrg (wvP p pts)), tB true] else .tup [nil2, tB false]) := by
 have c1 := check_spec p ho
 rw [hc] at c1
 have hml : (pts.map fun l => [rwI l]).length = pts.length := lM ..
 have hmt : (p.threads.map cTh).length = p.threads.length := lM ..
 have ho3 := ho.2.2.1
 obtain ⟨_, hk2, _, _⟩ := check_syms hc
 have c3 := copyV_own (G := Tabs) p ho
 refine Pure.at mixedOk F28 rfl fun C hP hG hp => goF ?_; simp only [F28, targEnv, Nat.zero_add, Nat.reduceAdd]
 repeat' (first | refine goR rfl ?_ | refine goS rfl ?_ | refine tret1 rfl ?_ | refine tretN rfl ?_ | refine gY rfl rfl ?_ | refine gN rfl rfl ?_ | refine qT rfl rfl ?_ | refine qF rfl rfl ?_ | refine cA rfl (by rw [hP, hG]; exact c1) rfl ?_ | refine qF rfl (dF (by omega)) ?_ | fail)
 refine loopS (fun m env σ => ∃ a b, pts = a ++ b ∧ m = b.length ∧ inL pts p.threads = inL b (p.threads.drop a.length) ∧ (∀ l ∈ a, ordF none l = true) ∧ env = [(1, ptR pts), (2, .p 0 0), (4, .p 1 0), (26, ptR pts), (27, tI (pts.map fun l => [rwI l]).length), (28, tI a.length)] ∧
  σ = ⟨[(0, .cells (cPrg p) 28), (1, .cells [.v (.slice none 0 0), .v (.slice none 0 0)] 28)], 60⟩) pts.length (w_canon 60 [] [1, 2, 4, 26, 27, 28] hp rfl rfl rfl rfl) ⟨[], pts, rfl, rfl, rfl, (fun l h => by (cases h)), rfl, rfl⟩ ?_
 rintro m1 env σ ⟨a, b, e, rfl, hF, hA, rfl, rfl⟩
 have hla : pts.length = a.length + b.length := by rw [e, lA]
 cases b with
 | cons l b =>
  have hx : pts[a.length]? = some l := by rw [e]; exact ix
  simp only [List.length_cons] at hla
  have hlt : a.length < p.threads.length := by omega
  have hy : p.threads[a.length]? = some p.threads[a.length] := List.getElem?_eq_getElem hlt
  have hll := hp1 l (by rw [e]; simp)
  have hyb := hb _ (List.getElem_mem hlt)
  rw [List.drop_eq_getElem_cons hlt] at hF
  generalize p.threads[a.length] = ins at *
  have hil : (ins.map cIns).length = ins.length := lM ..
  have hw1 : IntKind.i64.wrap ((a.length : Int) + 1) = ((a ++ [l]).length : Int) := by rw [w64 (by omega), lA]; rfl
  have c2 := wvOrd_spec (G := Tabs) l hll
  have hF : inL pts p.threads = ((ordF none l && lastOk l ins.length) && inL b (p.threads.drop (a.length + 1))) := hF
  cases ho2 : ordF none l with
  | false =>
   rw [ho2] at c2 hF
   rw [show inL pts p.threads = false by rw [hF]; rfl, if_neg Bool.false_ne_true]
   repeat' (first | refine goR rfl ?_ | refine goS rfl ?_ | refine tret1 rfl ?_ | refine tretN rfl ?_ | refine gY rfl rfl ?_ | refine gN rfl rfl ?_ | refine qT rfl rfl ?_ | refine qF rfl rfl ?_ | refine qT rfl (dT (by omega)) ?_ | refine lT (tl_ixm rfl rfl rfl hx) ?_ | refine cA rfl (by rw [hP, hG]; exact c2) rfl ?_ | fail)
   exact .tupL (.cons (.aggL (.cons (.f _ rfl) (.cons (.f _ rfl) .nil))) (.cons (.f _ rfl) .nil))
  | true =>
   rw [ho2] at c2 hF
   have hA2 : ∀ x ∈ a ++ [l], ordF none x = true := fun x hx => by
    rcases List.mem_append.1 hx with h | h
    ·exact hA x h
    ·rw [List.mem_singleton.1 h]; exact ho2
   rcases List.eq_nil_or_concat l with rfl | ⟨l', q, rfl⟩
   ·have hF : inL pts p.threads = inL b (p.threads.drop (a ++ [[]]).length) := by rw [hF, lA]; rfl
    repeat' (first | refine goR rfl ?_ | refine goS rfl ?_ | refine tret1 rfl ?_ | refine tretN rfl ?_ | refine gY rfl rfl ?_ | refine gN rfl rfl ?_ | refine qT rfl rfl ?_ | refine qF rfl rfl ?_ | refine qT rfl (dT (by omega)) ?_ | refine lT (tl_ixm rfl rfl rfl hx) ?_ | refine cA rfl (by rw [hP, hG]; exact c2) rfl ?_ | fail)
    exact again (m' := b.length) (Nat.lt_succ_self _) (w_canon 60 [] [1, 2, 4, 26, 27, 28] hp rfl rfl rfl rfl) ⟨a ++ [[]], b, by rw [e]; simp, rfl, hF, hA2, by rw [hw1], rfl⟩
   ·simp only [List.concat_eq_append] at *
    have hal : (l' ++ [q]).length = l'.length + 1 := by rw [lA]; rfl
    have hlm : ((l' ++ [q]).map fun n => [tI n]).length = l'.length + 1 := by rw [lM, hal]
    have hq : (l' ++ [q])[l'.length]? = some q := by rw [List.getElem?_append_right (Nat.le_refl _), Nat.sub_self]; rfl
    have hw2 : IntKind.i64.wrap ((((l' ++ [q]).map fun n => [tI n]).length : Int) - 1) = (l'.length : Int) := by rw [hlm, w64 (by omega)]; omega
    have hlo : lastOk (l' ++ [q]) ins.length = decide (q < ins.length) := by unfold lastOk; rw [getLast_snoc]
    rw [hlo] at hF
    by_cases hql : q < (ins.length : Int)
    ·rw [dT hql] at hF
     have hF : inL pts p.threads = inL b (p.threads.drop (a ++ [l' ++ [q]]).length) := by rw [hF, lA]; rfl
     repeat' (first | refine goR rfl ?_ | refine goS rfl ?_ | refine tret1 rfl ?_ | refine tretN rfl ?_ | refine gY rfl rfl ?_ | refine gN rfl rfl ?_ | refine qT rfl rfl ?_ | refine qF rfl rfl ?_ | refine qT rfl (dT (by omega)) ?_ | refine qF rfl (dF (by omega)) ?_ | refine tg_t rfl (dT (by omega)) ?_ | refine lT (tl_ixm rfl rfl rfl hx) ?_ | refine lT (tl_ixm rfl rfl rfl hy) ?_ | refine lT (tl_ixm (m := l'.length) rfl rfl hw2 hq) ?_ | refine cA rfl (by rw [hP, hG]; exact c2) rfl ?_ | ((first | refine gS rfl (fun h => ?_) (fun h => ?_) | refine ts_cond rfl (fun h => ?_) (fun h => ?_)) <;> (try simp only [bs0, beq_iff_eq] at h) <;> try (exfalso; omega; done)) | fail)
     all_goals exact again (m' := b.length) (Nat.lt_succ_self _) (w_canon 60 [] [1, 2, 4, 26, 27, 28] hp rfl rfl rfl rfl) ⟨a ++ [l' ++ [q]], b, by rw [e]; simp, rfl, hF, hA2, by rw [hw1], rfl⟩
    ·rw [dF hql] at hF
     rw [show inL pts p.threads = false by rw [hF]; rfl, if_neg Bool.false_ne_true]
     repeat' (first | refine goR rfl ?_ | refine goS rfl ?_ | refine tret1 rfl ?_ | refine tretN rfl ?_ | refine gY rfl rfl ?_ | refine gN rfl rfl ?_ | refine qT rfl rfl ?_ | refine qF rfl rfl ?_ | refine qT rfl (dT (by omega)) ?_ | refine tg_t rfl (dT (by omega)) ?_ | refine lT (tl_ixm rfl rfl rfl hx) ?_ | refine lT (tl_ixm rfl rfl rfl hy) ?_ | refine lT (tl_ixm (m := l'.length) rfl rfl hw2 hq) ?_ | refine cA rfl (by rw [hP, hG]; exact c2) rfl ?_ | ((first | refine gS rfl (fun h => ?_) (fun h => ?_) | refine ts_cond rfl (fun h => ?_) (fun h => ?_)) <;> (try simp only [bs0, beq_iff_eq] at h) <;> try (exfalso; omega; done)) | fail)
     all_goals exact .tupL (.cons (.aggL (.cons (.f _ rfl) (.cons (.f _ rfl) .nil))) (.cons (.f _ rfl) .nil))
 | nil =>
  rw [List.length_nil] at hla
  rw [List.append_nil] at e
  have hF : inL pts p.threads = true := hF
  rw [if_pos hF]
  have hA : ∀ k, ordF none (pts.getD k []) = true := fun k => by
   rw [List.getD_eq_getElem?_getD]
   cases h : pts[k]? with
   | none => rfl
   | some l => exact hA l (e ▸ List.mem_of_getElem? h)
  have hgl : ∀ k, (pts.getD k []).length ≤ 1000000 := fun k => by
   rw [List.getD_eq_getElem?_getD]
   cases h : pts[k]? with
   | none => exact Nat.zero_le _
   | some l => exact hp1 l (List.mem_of_getElem? h)
  clear hF e
  repeat' (first | refine goR rfl ?_ | refine goS rfl ?_ | refine tret1 rfl ?_ | refine tretN rfl ?_ | refine gY rfl rfl ?_ | refine gN rfl rfl ?_ | refine qT rfl rfl ?_ | refine qF rfl rfl ?_ | refine qF rfl (dF (by omega)) ?_ | refine tr_mcallX hP hG (c3) rfl rfl rfl rfl rfl rfl rfl rfl rfl rfl rfl rfl ?_ | fail)
  refine loopS (fun m env σ => ∃ k : Nat, k ≤ p.threads.length ∧ m = p.threads.length - k ∧ env = [(1, ptR pts), (4, .p 0 0), (8, .p 1 0), (63, tI p.threads.length), (64, tI k)] ∧
   σ = ⟨[(0, .cells [.v (.slice none 0 0), .v (.slice none 0 0)] 28), (1, .cells [.lst 3 (p.syms.map cSym), .s 2 1 0 p.threads.length true] 28), (2, .rows 1 ((mixT pts p.threads k).map cTh) 69)], 60⟩) p.threads.length
   (w_canon 60 [] [1, 4, 8, 63, 64] hp rfl rfl rfl rfl) ⟨0, Nat.zero_le _, rfl, rfl, by rw [mix_0]⟩ ?_
  rintro m2 env σ ⟨k, hk, rfl, rfl, rfl⟩
  have hmk : ((mixT pts p.threads k).map cTh).length = p.threads.length := by rw [lM, mix_len pts _ hk]
  by_cases hlt : k < p.threads.length
  ·have hy : p.threads[k]? = some p.threads[k] := List.getElem?_eq_getElem hlt
   have hyb := hb _ (List.getElem_mem hlt)
   generalize p.threads[k] = x at *
   have hmg : ((mixT pts p.threads k).map cTh)[k]? = some (cTh x) := by rw [List.getElem?_map, mix_get pts hy]; rfl
   have hms := mix_set pts hy
   have c4 := wvOf_spec (G := Tabs) pts (by omega) k
   have hr := ord_rises (hA k)
   have hgk := hgl k
   generalize pts.getD k [] = l at *
   have hxl : (x.map cIns).length = x.length := lM ..
   have hw1 : IntKind.i64.wrap ((k : Int) + 1) = ((k + 1 : Nat) : Int) := by rw [w64 (by omega)]; rfl
   repeat' (first | refine goR rfl ?_ | refine goS rfl ?_ | refine tret1 rfl ?_ | refine tretN rfl ?_ | refine gY rfl rfl ?_ | refine gN rfl rfl ?_ | refine qT rfl rfl ?_ | refine qF rfl rfl ?_ | refine qT rfl (dT (by omega)) ?_ | refine cA rfl (by rw [hP, hG]; exact c4) rfl ?_ | refine lT (tl_ixo (m := k) rfl rfl rfl hlt) ?_ | refine lT (tl_ldE rfl rfl hmg rfl) ?_ | fail)
   refine loopS (fun m env σ => ∃ c d, x = c ++ d ∧ m = d.length ∧ env = [(1, ptR pts), (4, .p 0 0), (8, .p 1 0), (9, tI k), (10, rwI (remN l c.length)), (11, .s 3 13 0 (wvL l 0 c).length true), (63, tI p.threads.length), (64, tI k), (75, .lst 13 (x.map cIns)), (76, tI (x.map cIns).length), (77, tI c.length)] ∧
    σ = ⟨[(0, .cells [.v (.slice none 0 0), .v (.slice none 0 0)] 28), (1, .cells [.lst 3 (p.syms.map cSym), .s 2 1 0 p.threads.length true] 28), (2, .rows 1 ((mixT pts p.threads k).map cTh) 69), (3, .rows 13 ((wvL l 0 c).map cIns) 74)], 60⟩) x.length
    ((w_virt (d := 11) 13 74 rfl).trans (w_canon 60 [] [1, 4, 8, 9, 10, 11, 63, 64, 75, 76, 77] hp rfl rfl rfl rfl)) ⟨[], x, rfl, rfl, by rw [List.length_nil, remN_zero hr]; rfl, rfl⟩ ?_
   rintro m3 env σ ⟨c, d, e3, rfl, rfl, rfl⟩
   have hlc : x.length = c.length + d.length := by rw [e3, lA]
   cases d with
   | nil =>
    rw [List.length_nil] at hlc
    rw [List.append_nil] at e3
    subst e3
    have hse : ((mixT pts p.threads k).map cTh).set k [.lst 13 ((wvL l 0 x).map cIns)] = (mixT pts p.threads (k + 1)).map cTh := by rw [← hms, List.map_set]; rfl
    refine ts_weak (w_frzS 11 rfl rfl (by rw [lM])) ?_
    repeat' (first | refine goR rfl ?_ | refine goS rfl ?_ | refine tret1 rfl ?_ | refine tretN rfl ?_ | refine gY rfl rfl ?_ | refine gN rfl rfl ?_ | refine qT rfl rfl ?_ | refine qF rfl rfl ?_ | refine qF rfl (dF (by omega)) ?_ | refine lT (tl_ixo (m := k) rfl rfl rfl hlt) ?_ | refine tr_storeE rfl rfl hmg rfl rfl rfl rfl rfl rfl ?_ | fail)
    exact again (m' := p.threads.length - (k + 1)) (by omega) (w_canon 60 [] [1, 4, 8, 63, 64] hp rfl rfl rfl rfl) ⟨k + 1, by omega, rfl, by rw [hw1], by rw [← hse]⟩
   | cons y d =>
    have hyx : x[c.length]? = some y := by rw [e3]; exact ix
    simp only [List.length_cons] at hlc
    have hwl : (wvL l 0 c).length ≤ 2 * c.length := by
     rw [wvL_len]
     have : ∀ (n k : Nat), cutN l k n ≤ n := by
      intro n
      induction n with
      | zero => intro k; exact Nat.le_refl _
      | succ n ih => intro k; have := ih (k + 1); rw [cutN]; split <;> omega
     have := this c.length 0
     omega
    have hsn := wvL_snoc l c 0 y
    rw [Nat.zero_add] at hsn
    have hrl := List.length_filter_le (fun a => decide ((c.length : Int) ≤ a)) l
    have hrl : (remN l c.length).length ≤ l.length := hrl
    have hw2 : IntKind.i64.wrap ((c.length : Int) + 1) = ((c ++ [y]).length : Int) := by rw [w64 (by omega), lA]; rfl
    by_cases hin : (c.length : Int) ∈ l
    ·rw [if_pos hin] at hsn
     have hri := remN_in hr.1 hin
     have hrn : remN l (c ++ [y]).length = remN l (c.length + 1) := by rw [lA]; rfl
     rw [hri] at hrl
     rw [hri]
     generalize remN l (c.length + 1) = r at *
     rw [List.length_cons] at hrl
     have hrm : (((c.length : Int) :: r).map fun n => [tI n]).length = r.length + 1 := by rw [lM, List.length_cons]
     repeat' (first | refine goR rfl ?_ | refine goS rfl ?_ | refine tret1 rfl ?_ | refine tretN rfl ?_ | refine gY rfl rfl ?_ | refine gN rfl rfl ?_ | refine qT rfl rfl ?_ | refine qF rfl rfl ?_ | refine qT rfl (dT (by omega)) ?_ | refine tg_t rfl (dT (by omega)) ?_ | refine lT (tl_ixm rfl rfl rfl hyx) ?_ | refine lT (tl_ixf (m := 0) rfl rfl rfl rfl) ?_ | refine lT (tl_slc (r := r.map fun n => [tI n]) rfl rfl rfl ⟨by decide, by simp only [Option.getD_some, Option.getD_none, lM, List.length_cons]; omega, by simp only [Option.getD_none]; omega⟩ (by simp only [Option.getD_some, Option.getD_none, lM, List.length_cons, List.map_cons]; show List.take _ (List.map _ r) = _; exact List.take_of_length_le (by simp))) ?_ | refine tr_append rfl rfl (by simp only [lA, lM, List.length_cons, List.length_nil]) (.inr (.inr ⟨_, _, _, _, rfl, rfl, rfl⟩)) (by simp only [List.length_cons, List.length_nil]; omega) rfl ?_ | ((first | refine gS rfl (fun h => ?_) (fun h => ?_) | refine ts_cond rfl (fun h => ?_) (fun h => ?_)) <;> (try simp only [bs0, beq_iff_eq] at h) <;> try (exfalso; omega; done)) | fail)
     refine again (m' := d.length) (Nat.lt_succ_self _) ((w_canon 60 [] [1, 4, 8, 9, 10, 11, 63, 64, 75, 76, 77] hp rfl rfl rfl rfl).trans (w_rowsN (k := 3) (r' := cIns (bareI y)) rfl ?_)) ⟨c ++ [y], d, by rw [e3]; simp, rfl, by rw [hw2, hrn, hsn, @lA _ (wvL l 0 c)]; rfl, by rw [hsn, List.map_append]; simp only [List.append_assoc]; rfl⟩
     exact .cons (.refl _) (.cons (.refl _) (.cons (.refl _) (.cons (.refl _) (.cons (.refl _) (.cons (.refl _) (.cons (.refl _) (.cons (.refl _) (.cons (.refl _) (.cons (.refl _) (.cons (.refl _) (.cons (.refl _) (.cons (.nil 1) .nil))))))))))))
    ·rw [if_neg hin] at hsn
     have hrn : remN l (c ++ [y]).length = remN l c.length := by rw [lA]; exact remN_out hin
     have hhd := fun {z r} => remN_hd hin (x := z) (r := r)
     cases hre : remN l c.length with
     | nil =>
      rw [hre] at hrn
      repeat' (first | refine goR rfl ?_ | refine goS rfl ?_ | refine tret1 rfl ?_ | refine tretN rfl ?_ | refine gY rfl rfl ?_ | refine gN rfl rfl ?_ | refine qT rfl rfl ?_ | refine qF rfl rfl ?_ | refine qT rfl (dT (by omega)) ?_ | refine lT (tl_ixm rfl rfl rfl hyx) ?_ | refine tr_append rfl rfl (by simp only [lM]) (.inr (.inr ⟨_, _, _, _, rfl, rfl, rfl⟩)) (by simp only [List.length_cons, List.length_nil]; omega) rfl ?_ | ((first | refine gS rfl (fun h => ?_) (fun h => ?_) | refine ts_cond rfl (fun h => ?_) (fun h => ?_)) <;> (try simp only [bs0, beq_iff_eq] at h) <;> try (exfalso; omega; done)) | fail)
      all_goals exact again (m' := d.length) (Nat.lt_succ_self _) (w_canon 60 [] [1, 4, 8, 9, 10, 11, 63, 64, 75, 76, 77] hp rfl rfl rfl rfl) ⟨c ++ [y], d, by rw [e3]; simp, rfl, by rw [hw2, hrn, hsn, @lA _ (wvL l 0 c)]; rfl, by rw [hsn, List.map_append]; rfl⟩
     | cons z r =>
      rw [hre] at hrn hrl
      have hz := hhd hre
      rw [List.length_cons] at hrl
      have hrm : ((z :: r).map fun n => [tI n]).length = r.length + 1 := by rw [lM, List.length_cons]
      repeat' (first | refine goR rfl ?_ | refine goS rfl ?_ | refine tret1 rfl ?_ | refine tretN rfl ?_ | refine gY rfl rfl ?_ | refine gN rfl rfl ?_ | refine qT rfl rfl ?_ | refine qF rfl rfl ?_ | refine qT rfl (dT (by omega)) ?_ | refine qF rfl (dF hz) ?_ | refine tg_t rfl (dT (by omega)) ?_ | refine lT (tl_ixm rfl rfl rfl hyx) ?_ | refine lT (tl_ixf (m := 0) rfl rfl rfl rfl) ?_ | refine tr_append rfl rfl (by simp only [lM]) (.inr (.inr ⟨_, _, _, _, rfl, rfl, rfl⟩)) (by simp only [List.length_cons, List.length_nil]; omega) rfl ?_ | ((first | refine gS rfl (fun h => ?_) (fun h => ?_) | refine ts_cond rfl (fun h => ?_) (fun h => ?_)) <;> (try simp only [bs0, beq_iff_eq] at h) <;> try (exfalso; omega; done)) | fail)
      all_goals exact again (m' := d.length) (Nat.lt_succ_self _) (w_canon 60 [] [1, 4, 8, 9, 10, 11, 63, 64, 75, 76, 77] hp rfl rfl rfl rfl) ⟨c ++ [y], d, by rw [e3]; simp, rfl, by rw [hw2, hrn, hsn, @lA _ (wvL l 0 c)]; rfl, by rw [hsn, List.map_append]; rfl⟩
  ·have hkn : k = p.threads.length := by omega
   subst hkn
   rw [mix_n]
   repeat' (first | refine goR rfl ?_ | refine goS rfl ?_ | refine tret1 rfl ?_ | refine tretN rfl ?_ | refine gY rfl rfl ?_ | refine gN rfl rfl ?_ | refine qT rfl rfl ?_ | refine qF rfl rfl ?_ | refine qF rfl (dF (by omega)) ?_ | fail)
   exact .tupL (.cons (.aggL (.cons (.f _ rfl) (.cons (.s _ 1 _ true _ 69 rfl (by rw [lM]; exact (wvT_len pts p.threads).symm)) .nil))) (.cons (.f _ rfl) .nil))
end
end Go.Proofs.YtnphhelbianjpaaGreatDoor
