/-
  Walks of functions of the program, and what the laws need of them.
-/
import Derived.Test.YtnphhelbianjpaaGreatDoorRPM
import Derived.Test.YtnphhelbianjpaaGreatDoorVI
import Derived.Test.YtnphhelbianjpaaGreatDoorRPC
import Derived.Test.YtnphhelbianjpaaGreatDoorRPN
import Derived.Test.YtnphhelbianjpaaGreatDoorRPK
import Derived.Test.YtnphhelbianjpaaGreatDoorRPH
import Derived.Test.YtnphhelbianjpaaGreatDoorRPL
set_option linter.all false
set_option linter.unusedSimpArgs false
set_option linter.unusedVariables false
set_option linter.unnecessarySimpa false
namespace Go.Proofs.YtnphhelbianjpaaGreatDoor
set_option maxRecDepth 20000
open Go Go.Proofs.YtnphhelbianjpaaGreatDoor.V Go.Proofs
section
attribute [local irreducible] TwS TwR thenT inBlockT retT
variable {G : World → Prop}
set_option maxHeartbeats 20000000 in
theorem rising_spec (l : List Int) (hl : l.length ≤ 1000000) : Pure prog G 41 [rwI l] (tB (ordF none l)) := by
 have hml : (l.map fun n => [tI n]).length = l.length := lM ..
 refine Pure.at mixedOk F41 rfl fun C hP hG hp => goF ?_; simp only [F41, targEnv, Nat.zero_add, Nat.reduceAdd]
 repeat' (first | refine goR rfl ?_ | refine goS rfl ?_ | refine tret1 rfl ?_ | refine tretN rfl ?_ | refine gY rfl rfl ?_ | refine gN rfl rfl ?_ | refine qT rfl rfl ?_ | refine qF rfl rfl ?_ | fail)
 refine loopS (fun m env σ => ∃ a b, l = a ++ b ∧ m = b.length ∧ ordF none l = ordF a.getLast? b ∧ env = [(0, rwI l), (3, tI a.length)] ∧ σ = ⟨[], 60⟩) l.length (w_canon 60 [] [0, 3] hp rfl rfl rfl rfl) ⟨[], l, rfl, rfl, rfl, rfl, rfl⟩ ?_
 rintro m1 env σ ⟨a, b, e, rfl, hF, rfl, rfl⟩
 have hla : l.length = a.length + b.length := by rw [e, lA]
 cases b with
 | nil =>
  rw [List.length_nil] at hla
  have hF : ordF none l = true := by rw [hF]; cases a.getLast? <;> rfl
  rw [hF]
  repeat' (first | refine goR rfl ?_ | refine goS rfl ?_ | refine tret1 rfl ?_ | refine tretN rfl ?_ | refine gY rfl rfl ?_ | refine gN rfl rfl ?_ | refine qT rfl rfl ?_ | refine qF rfl rfl ?_ | refine qF rfl (dF (by omega)) ?_ | fail)
  exact .fr rfl
 | cons x b =>
  have hx : l[a.length]? = some x := by rw [e]; exact ix
  simp only [List.length_cons] at hla
  have hw1 : IntKind.i64.wrap ((a.length : Int) + 1) = ((a ++ [x]).length : Int) := by rw [w64 (by omega), lA]; rfl
  have hnx : ∀ h : ordF none l = ordF (some x) b, ordF none l = ordF (a ++ [x]).getLast? b := fun h => by rw [h, getLast_snoc]
  by_cases h1 : x < 0
  ·have hF : ordF none l = false := by
    rw [hF]; cases a.getLast? <;> (rw [ordF, if_pos (.inl h1)])
   rw [hF]
   repeat' (first | refine goR rfl ?_ | refine goS rfl ?_ | refine tret1 rfl ?_ | refine tretN rfl ?_ | refine gY rfl rfl ?_ | refine gN rfl rfl ?_ | refine qT rfl rfl ?_ | refine qF rfl rfl ?_ | refine qT rfl (dT (by omega)) ?_ | refine tg_t rfl (dT (by omega)) ?_ | refine tg_f rfl (dF (by omega)) ?_ | refine lT (tl_ixm rfl rfl rfl hx) ?_ | ((first | refine gS rfl (fun h => ?_) (fun h => ?_) | refine ts_cond rfl (fun h => ?_) (fun h => ?_)) <;> (try simp only [bs0, beq_iff_eq] at h) <;> try (exfalso; omega; done)) | fail)
   all_goals exact .fr rfl
  by_cases h2 : x > 2147483647
  ·have hF : ordF none l = false := by
    rw [hF]; cases a.getLast? with
    | none => rw [ordF, if_pos (.inr h2)]
    | some q => rw [ordF, if_pos (.inr (.inl h2))]
   rw [hF]
   repeat' (first | refine goR rfl ?_ | refine goS rfl ?_ | refine tret1 rfl ?_ | refine tretN rfl ?_ | refine gY rfl rfl ?_ | refine gN rfl rfl ?_ | refine qT rfl rfl ?_ | refine qF rfl rfl ?_ | refine qT rfl (dT (by omega)) ?_ | refine tg_t rfl (dT (by omega)) ?_ | refine tg_f rfl (dF (by omega)) ?_ | refine lT (tl_ixm rfl rfl rfl hx) ?_ | ((first | refine gS rfl (fun h => ?_) (fun h => ?_) | refine ts_cond rfl (fun h => ?_) (fun h => ?_)) <;> (try simp only [bs0, beq_iff_eq] at h) <;> try (exfalso; omega; done)) | fail)
   all_goals exact .fr rfl
  rcases List.eq_nil_or_concat a with rfl | ⟨a', q, rfl⟩
  ·have hF : ordF none l = ordF (some x) b := by
    rw [hF]; show ordF none (x :: b) = _; rw [ordF, if_neg (by omega)]
   repeat' (first | refine goR rfl ?_ | refine goS rfl ?_ | refine tret1 rfl ?_ | refine tretN rfl ?_ | refine gY rfl rfl ?_ | refine gN rfl rfl ?_ | refine qT rfl rfl ?_ | refine qF rfl rfl ?_ | refine qT rfl (dT (by omega)) ?_ | refine tg_t rfl (dT (by omega)) ?_ | refine tg_f rfl (dF (by omega)) ?_ | refine lT (tl_ixm rfl rfl rfl hx) ?_ | ((first | refine gS rfl (fun h => ?_) (fun h => ?_) | refine ts_cond rfl (fun h => ?_) (fun h => ?_)) <;> (try simp only [bs0, beq_iff_eq] at h) <;> try (exfalso; omega; done)) | fail)
   all_goals exact again (m' := b.length) (Nat.lt_succ_self _) (w_canon 60 [] [0, 3] hp rfl rfl rfl rfl) ⟨[] ++ [x], b, by rw [e]; simp, rfl, hnx hF, by rw [hw1], rfl⟩
  ·rw [List.concat_eq_append, getLast_snoc] at hF
   rw [List.concat_eq_append] at hx hnx hw1 e
   rw [List.concat_eq_append]
   have hal : (a' ++ [q]).length = a'.length + 1 := by rw [lA]; rfl
   rw [List.concat_eq_append, hal] at hla
   rw [hal] at hx hw1
   rw [hal]
   have hq : l[a'.length]? = some q := by rw [e, List.append_assoc]; exact ix
   have hw2 : IntKind.i64.wrap (((a'.length + 1 : Nat) : Int) - 1) = (a'.length : Int) := by rw [w64 (by omega)]; omega
   by_cases h3 : x ≤ q
   ·have hF : ordF none l = false := by rw [hF, ordF, if_pos (.inr (.inr h3))]
    rw [hF]
    repeat' (first | refine goR rfl ?_ | refine goS rfl ?_ | refine tret1 rfl ?_ | refine tretN rfl ?_ | refine gY rfl rfl ?_ | refine gN rfl rfl ?_ | refine qT rfl rfl ?_ | refine qF rfl rfl ?_ | refine qT rfl (dT (by omega)) ?_ | refine tg_t rfl (dT (by omega)) ?_ | refine tg_f rfl (dF (by omega)) ?_ | refine lT (tl_ixm rfl rfl rfl hx) ?_ | refine lT (tl_ixm (m := a'.length) rfl rfl hw2 hq) ?_ | ((first | refine gS rfl (fun h => ?_) (fun h => ?_) | refine ts_cond rfl (fun h => ?_) (fun h => ?_)) <;> (try simp only [bs0, beq_iff_eq] at h) <;> try (exfalso; omega; done)) | fail)
    all_goals exact .fr rfl
   ·have hF : ordF none l = ordF (some x) b := by rw [hF, ordF, if_neg (by omega)]
    repeat' (first | refine goR rfl ?_ | refine goS rfl ?_ | refine tret1 rfl ?_ | refine tretN rfl ?_ | refine gY rfl rfl ?_ | refine gN rfl rfl ?_ | refine qT rfl rfl ?_ | refine qF rfl rfl ?_ | refine qT rfl (dT (by omega)) ?_ | refine tg_t rfl (dT (by omega)) ?_ | refine tg_f rfl (dF (by omega)) ?_ | refine qF rfl (dF (by omega)) ?_ | refine lT (tl_ixm rfl rfl rfl hx) ?_ | refine lT (tl_ixm (m := a'.length) rfl rfl hw2 hq) ?_ | ((first | refine gS rfl (fun h => ?_) (fun h => ?_) | refine ts_cond rfl (fun h => ?_) (fun h => ?_)) <;> (try simp only [bs0, beq_iff_eq] at h) <;> try (exfalso; omega; done)) | fail)
    all_goals exact again (m' := b.length) (Nat.lt_succ_self _) (w_canon 60 [] [0, 3] hp rfl rfl rfl rfl) ⟨(a' ++ [q]) ++ [x], b, by rw [e]; simp, rfl, hnx hF, by rw [hw1], rfl⟩
set_option maxHeartbeats 20000000 in
theorem in3_spec (l : List Int) (hl : l.length ≤ 1000000) (v : Int) : Pure prog G 17 [rwI l, tI v] (tB (decide (v ∈ l))) := by
 have hml : (l.map fun n => [tI n]).length = l.length := lM ..
 refine Pure.at mixedOk F17 rfl fun C hP hG hp => goF ?_; simp only [F17, targEnv, Nat.zero_add, Nat.reduceAdd]
 repeat' (first | refine goR rfl ?_ | refine goS rfl ?_ | refine tret1 rfl ?_ | refine tretN rfl ?_ | refine gY rfl rfl ?_ | refine gN rfl rfl ?_ | refine qT rfl rfl ?_ | refine qF rfl rfl ?_ | fail)
 refine loopS (fun m env σ => ∃ a b, l = a ++ b ∧ m = b.length ∧ decide (v ∈ l) = decide (v ∈ b) ∧ env = [(0, rwI l), (1, tI v), (5, tI a.length)] ∧ σ = ⟨[], 60⟩) l.length (w_canon 60 [] [0, 1, 5] hp rfl rfl rfl rfl) ⟨[], l, rfl, rfl, rfl, rfl, rfl⟩ ?_
 rintro m1 env σ ⟨a, b, e, rfl, hF, rfl, rfl⟩
 have hla : l.length = a.length + b.length := by rw [e, lA]
 cases b with
 | nil =>
  rw [List.length_nil] at hla
  rw [hF, dF List.not_mem_nil]
  repeat' (first | refine goR rfl ?_ | refine goS rfl ?_ | refine tret1 rfl ?_ | refine tretN rfl ?_ | refine gY rfl rfl ?_ | refine gN rfl rfl ?_ | refine qT rfl rfl ?_ | refine qF rfl rfl ?_ | refine qF rfl (dF (by omega)) ?_ | fail)
  exact .fr rfl
 | cons x b =>
  have hx : l[a.length]? = some x := by rw [e]; exact ix
  simp only [List.length_cons] at hla
  have hw1 : IntKind.i64.wrap ((a.length : Int) + 1) = ((a ++ [x]).length : Int) := by rw [w64 (by omega), lA]; rfl
  by_cases h0 : x = v
  ·rw [hF, dT (by rw [h0]; exact List.mem_cons_self ..)]
   repeat' (first | refine goR rfl ?_ | refine goS rfl ?_ | refine tret1 rfl ?_ | refine tretN rfl ?_ | refine gY rfl rfl ?_ | refine gN rfl rfl ?_ | refine qT rfl rfl ?_ | refine qF rfl rfl ?_ | refine qT rfl (dT (by omega)) ?_ | refine qT rfl (dT h0) ?_ | refine lT (tl_ixm rfl rfl rfl hx) ?_ | fail)
   exact .fr rfl
  ·have hF : decide (v ∈ l) = decide (v ∈ b) := by
    rw [hF]
    exact decide_eq_decide.2 ⟨fun h => (List.mem_cons.1 h).resolve_left (fun e => h0 e.symm), List.mem_cons_of_mem _⟩
   repeat' (first | refine goR rfl ?_ | refine goS rfl ?_ | refine tret1 rfl ?_ | refine tretN rfl ?_ | refine gY rfl rfl ?_ | refine gN rfl rfl ?_ | refine qT rfl rfl ?_ | refine qF rfl rfl ?_ | refine qT rfl (dT (by omega)) ?_ | refine qF rfl (dF h0) ?_ | refine lT (tl_ixm rfl rfl rfl hx) ?_ | fail)
   exact again (m' := b.length) (Nat.lt_succ_self _) (w_canon 60 [] [0, 1, 5] hp rfl rfl rfl rfl) ⟨a ++ [x], b, by rw [e]; simp, rfl, hF, by rw [hw1], rfl⟩
set_option maxHeartbeats 20000000 in
theorem of3_spec (pts : List (List Int)) (hp0 : pts.length ≤ 1000000) (t : Nat) : Pure prog G 36 [ptR pts, tI t] (rwI (pts.getD t [])) := by
 have hml : (pts.map fun l => [rwI l]).length = pts.length := lM ..
 rw [List.getD_eq_getElem?_getD]
 cases h : pts[t]? with
 | some l =>
  have htl := (List.getElem?_eq_some_iff.1 h).1
  refine Pure.at mixedOk F36 rfl fun C hP hG hp => goF ?_; simp only [F36, targEnv, Nat.zero_add, Nat.reduceAdd]
  repeat' (first | refine goR rfl ?_ | refine goS rfl ?_ | refine tret1 rfl ?_ | refine tretN rfl ?_ | refine gY rfl rfl ?_ | refine gN rfl rfl ?_ | refine qT rfl rfl ?_ | refine qF rfl rfl ?_ | refine tg_f rfl (dF (by omega)) ?_ | refine qF rfl (dF (by omega)) ?_ | refine lT (tl_ixm rfl rfl rfl h) ?_ | ((first | refine gS rfl (fun h => ?_) (fun h => ?_) | refine ts_cond rfl (fun h => ?_) (fun h => ?_)) <;> (try simp only [bs0, beq_iff_eq] at h) <;> try (exfalso; omega; done)) | fail)
  all_goals exact .fr rfl
 | none =>
  have htl := List.getElem?_eq_none_iff.1 h
  refine Pure.at mixedOk F36 rfl fun C hP hG hp => goF ?_; simp only [F36, targEnv, Nat.zero_add, Nat.reduceAdd]
  repeat' (first | refine goR rfl ?_ | refine goS rfl ?_ | refine tret1 rfl ?_ | refine tretN rfl ?_ | refine gY rfl rfl ?_ | refine gN rfl rfl ?_ | refine qT rfl rfl ?_ | refine qF rfl rfl ?_ | refine tg_f rfl (dF (by omega)) ?_ | refine qT rfl (dT (by omega)) ?_ | ((first | refine gS rfl (fun h => ?_) (fun h => ?_) | refine ts_cond rfl (fun h => ?_) (fun h => ?_)) <;> (try simp only [bs0, beq_iff_eq] at h) <;> try (exfalso; omega; done)) | fail)
  all_goals exact .nil 1
end
end Go.Proofs.YtnphhelbianjpaaGreatDoor
namespace Go.Proofs.YtnphhelbianjpaaGreatDoor
set_option maxRecDepth 20000
open Go Go.Proofs.YtnphhelbianjpaaGreatDoor.V Go.Proofs
theorem mix_end (pts : List (List Int)) (ts : List (List Ins)) {k : Nat} (h : pts.length ≤ k) (hk : k ≤ ts.length) : mixT pts ts k = wvT pts ts := by
 have hl : ((wvT pts ts).take k).length = k := by rw [List.length_take, wvT_len]; omega
 apply List.ext_getElem?
 intro i
 unfold mixT
 by_cases hi : i < k
 ·rw [List.getElem?_append_left (by omega), List.getElem?_take, if_pos hi]
 ·rw [List.getElem?_append_right (by omega), hl, List.getElem?_drop, show k + (i - k) = i by omega, wvT_get]
  rw [List.getD_eq_getElem?_getD, List.getElem?_eq_none (show pts.length ≤ i by omega), Option.getD_none]
  have : (wvL [] 0 : List Ins → List Ins) = id := by
   funext z
   exact wvL_nil z 0
  rw [this]
  simp
section
attribute [local irreducible] TwS TwR thenT inBlockT retT
variable {G : World → Prop}
set_option maxHeartbeats 20000000 in
theorem copyIns_spec (x : Ins) (hx : x.labels.length ≤ 1000000000) : Pure prog G 42 [.agg (cIns x)] (.agg (cIns x)) := by
 have hl : (x.labels.map fun s => [tS s]).length = x.labels.length := lM ..
 refine Pure.at mixedOk F42 rfl fun C hP hG hp => goF ?_; simp only [F42, targEnv, Nat.zero_add, Nat.reduceAdd]
 repeat' (first | refine goR rfl ?_ | refine goS rfl ?_ | refine tret1 rfl ?_ | refine tretN rfl ?_ | refine gY rfl rfl ?_ | refine gN rfl rfl ?_ | refine qT rfl rfl ?_ | refine qF rfl rfl ?_ | refine tr_append0 rfl (.inl rfl) (by omega) rfl ?_ | fail)
 show Fz _ _ (.agg (cIns x))
 (repeat' first | exact FzL.nil | refine FzL.cons ?_ ?_ | exact Fz.fr rfl | exact Fz.nil _ | exact Fz.s _ _ _ _ _ _ rfl (lM ..).symm | exact Fz.s _ _ _ _ _ _ rfl rfl | refine Fz.pL rfl ?_ | refine Fz.aggL ?_); first | done | fail
set_option maxHeartbeats 20000000 in
theorem copyR_own (p : Prg) (hp : okP p) : TC prog G 40 [.agg (cPrg p)] ⟨[], 0⟩ [] (fun v σ' => v = .agg [.lst 3 (p.syms.map cSym), .s 0 1 0 p.threads.length true] ∧ σ' = ⟨[(0, .rows 1 (p.threads.map cTh) 69)], 60⟩) := by
 obtain ⟨h1, h2, h3, h4⟩ := hp
 have hls : (p.syms.map cSym).length = p.syms.length := lM ..
 have hlt : (p.threads.map cTh).length = p.threads.length := lM ..
 refine TC.at mixedOk F40 rfl fun C hP hG hp => goF ?_; simp only [F40, targEnv, Nat.zero_add, Nat.reduceAdd]
 repeat' (first | refine goR rfl ?_ | refine goS rfl ?_ | refine tret1 rfl ?_ | refine tretN rfl ?_ | refine gY rfl rfl ?_ | refine gN rfl rfl ?_ | refine qT rfl rfl ?_ | refine qF rfl rfl ?_ | fail)
 refine loopS (fun m env σ => ∃ a b, p.syms = a ++ b ∧ m = b.length ∧ env = [(1, .p 0 0), (2, .p 1 0), (3, .p 2 0), (4, tI a.length)] ∧
  σ = ⟨[(0, .cells (cPrg p) 28), (1, .cells [.v (.slice none 0 0), .v (.slice none 0 0)] 28), (2, .cells [.s 3 3 0 a.length true, .v (.slice none 0 0)] 28), (3, .rows 3 (a.map cSym) 65)], 60⟩) p.syms.length
  ((w_virtC (j := 2) (i := 0) 3 65 rfl rfl).trans (w_canon 60 [] [1, 2, 3, 4] hp rfl rfl rfl rfl)) ⟨[], p.syms, rfl, rfl, rfl, rfl⟩ ?_
 rintro m env σ ⟨a, b, e, rfl, rfl, rfl⟩
 have hla : p.syms.length = a.length + b.length := by rw [e, lA]
 cases b with
 | cons x b =>
  have hx : p.syms[a.length]? = some x := by rw [e]; exact ix
  simp only [List.length_cons] at hla
  have hxs := h2 x (by rw [e]; simp)
  have hxi : (x.init.map fun n => [tI n]).length = x.init.length := lM ..
  have hw1 : IntKind.i64.wrap ((a.length : Int) + 1) = ((a ++ [x]).length : Int) := by rw [w64 (by omega), lA]; rfl
  repeat' (first | refine goR rfl ?_ | refine goS rfl ?_ | refine tret1 rfl ?_ | refine tretN rfl ?_ | refine gY rfl rfl ?_ | refine gN rfl rfl ?_ | refine qT rfl rfl ?_ | refine qF rfl rfl ?_ | refine qT rfl (dT (by omega)) ?_ | refine lT (tl_ixm rfl rfl rfl hx) ?_ | (refine tr_append0 rfl (.inl rfl) (by omega) rfl ?_; refine tr_frzS 23 rfl rfl rfl ?_) | refine tr_append rfl rfl (by rw [lM]) (.inr (.inr ⟨_, _, _, _, rfl, rfl, rfl⟩)) (by simp only [List.length_cons, List.length_nil]; omega) rfl ?_ | fail)
  refine again (m' := b.length) (Nat.lt_succ_self _) (w_canon 60 [] [1, 2, 3, 4] hp rfl rfl rfl rfl) ⟨a ++ [x], b, by rw [e]; simp, rfl, by rw [hw1], by rw [List.map_append, lA]; rfl⟩
 | nil =>
  rw [List.length_nil] at hla
  rw [List.append_nil] at e
  repeat' (first | refine goR rfl ?_ | refine goS rfl ?_ | refine tret1 rfl ?_ | refine tretN rfl ?_ | refine gY rfl rfl ?_ | refine gN rfl rfl ?_ | refine qT rfl rfl ?_ | refine qF rfl rfl ?_ | refine qF rfl (dF (by omega)) ?_ | fail)
  refine loopS (fun m env σ => ∃ a b, p.threads = a ++ b ∧ m = b.length ∧ env = [(1, .p 0 0), (2, .p 1 0), (3, .p 2 0), (6, tI a.length)] ∧
   σ = ⟨[(0, .cells (cPrg p) 28), (1, .cells [.v (.slice none 0 0), .v (.slice none 0 0)] 28), (2, .cells [.lst 3 (p.syms.map cSym), .s 3 1 0 a.length true] 28), (3, .rows 1 (a.map cTh) 69)], 60⟩) p.threads.length
   ((w_freezeC (j := 2) (i := 0) (k := 3) rfl rfl rfl (by decide) (.s _ _ (by rw [lM]))).trans ((w_virtC (j := 2) (i := 1) 1 69 rfl rfl).trans (w_canon 60 [] [1, 2, 3, 6] hp rfl rfl rfl rfl))) ⟨[], p.threads, rfl, rfl, rfl, by rw [← e]; rfl⟩ ?_
  rintro m env σ ⟨a, b, e2, rfl, rfl, rfl⟩
  have hla2 : p.threads.length = a.length + b.length := by rw [e2, lA]
  cases b with
  | nil =>
   rw [List.length_nil] at hla2
   rw [List.append_nil] at e2
   repeat' (first | refine goR rfl ?_ | refine goS rfl ?_ | refine tret1 rfl ?_ | refine tretN rfl ?_ | refine gY rfl rfl ?_ | refine gN rfl rfl ?_ | refine qT rfl rfl ?_ | refine qF rfl rfl ?_ | refine qF rfl (dF (by omega)) ?_ | fail)
   rw [← e2]
   exact tretX 60 [] rfl hp rfl rfl rfl rfl ⟨rfl, rfl⟩
  | cons x b =>
   have hx : p.threads[a.length]? = some x := by rw [e2]; exact ix
   simp only [List.length_cons] at hla2
   have hxs := h4 x (by rw [e2]; simp)
   have hlx : (x.map cIns).length = x.length := lM ..
   have hxl := hxs.1.1
   have hw1 : IntKind.i64.wrap ((a.length : Int) + 1) = ((a ++ [x]).length : Int) := by rw [w64 (by omega), lA]; rfl
   repeat' (first | refine goR rfl ?_ | refine goS rfl ?_ | refine tret1 rfl ?_ | refine tretN rfl ?_ | refine gY rfl rfl ?_ | refine gN rfl rfl ?_ | refine qT rfl rfl ?_ | refine qF rfl rfl ?_ | refine qT rfl (dT (by omega)) ?_ | refine lT (tl_ixm rfl rfl rfl hx) ?_ | fail)
   refine loopS (fun m env σ => ∃ c d, x = c ++ d ∧ m = d.length ∧ env = [(1, .p 0 0), (2, .p 1 0), (3, .p 2 0), (6, tI a.length), (7, .p 4 0), (8, tI c.length)] ∧
    σ = ⟨[(0, .cells (cPrg p) 28), (1, .cells [.v (.slice none 0 0), .v (.slice none 0 0)] 28), (2, .cells [.lst 3 (p.syms.map cSym), .s 3 1 0 a.length true] 28), (3, .rows 1 (a.map cTh) 69),
     (4, .cells [.s 5 13 0 c.length true] 69), (5, .rows 13 (c.map cIns) 74)], 60⟩) x.length ((w_virtC (j := 60) (i := 0) 13 74 rfl rfl).trans (w_canon 60 [] [1, 2, 3, 6, 7, 8] hp rfl rfl rfl rfl)) ⟨[], x, rfl, rfl, rfl, rfl⟩ ?_
   rintro m env σ ⟨c, d, e3, rfl, rfl, rfl⟩
   have hlc : x.length = c.length + d.length := by rw [e3, lA]
   cases d with
   | nil =>
    rw [List.length_nil] at hlc
    rw [List.append_nil] at e3
    refine ts_weak (w_freezeC (j := 4) (i := 0) (k := 5) rfl rfl rfl (by decide) (.s _ _ (by rw [lM]))) ?_
    repeat' (first | refine goR rfl ?_ | refine goS rfl ?_ | refine tret1 rfl ?_ | refine tretN rfl ?_ | refine gY rfl rfl ?_ | refine gN rfl rfl ?_ | refine qT rfl rfl ?_ | refine qF rfl rfl ?_ | refine qF rfl (dF (by omega)) ?_ | refine lT (tl_ixm rfl rfl rfl hx) ?_ | refine tr_append rfl rfl (by rw [lM]) (.inr (.inr ⟨_, _, _, _, rfl, rfl, rfl⟩)) (by simp only [List.length_cons, List.length_nil]; omega) rfl ?_ | fail)
    refine again (m' := b.length) (Nat.lt_succ_self _) (w_canon 60 [] [1, 2, 3, 6] hp rfl rfl rfl rfl) ⟨a ++ [x], b, by rw [e2]; simp, rfl, by rw [hw1], by rw [List.map_append, lA, e3]; rfl⟩
   | cons y d =>
    have hy : x[c.length]? = some y := by rw [e3]; exact ix
    simp only [List.length_cons] at hlc
    have hys := (hxs.2 y (by rw [e3]; simp)).2.1
    have cI := copyIns_spec (G := G) y (by omega)
    have hw2 : IntKind.i64.wrap ((c.length : Int) + 1) = ((c ++ [y]).length : Int) := by rw [w64 (by omega), lA]; rfl
    repeat' (first | refine goR rfl ?_ | refine goS rfl ?_ | refine tret1 rfl ?_ | refine tretN rfl ?_ | refine gY rfl rfl ?_ | refine gN rfl rfl ?_ | refine qT rfl rfl ?_ | refine qF rfl rfl ?_ | refine qT rfl (dT (by omega)) ?_ | refine lT (tl_ixm rfl rfl rfl hx) ?_ | refine lT (tl_ixm rfl rfl rfl hy) ?_ | refine cA rfl (by rw [hP, hG]; exact cI) rfl ?_ | refine tr_append rfl rfl (by rw [lM]) (.inr (.inr ⟨_, _, _, _, rfl, rfl, rfl⟩)) (by simp only [List.length_cons, List.length_nil]; omega) rfl ?_ | fail)
    refine again (m' := d.length) (Nat.lt_succ_self _) (w_canon 60 [] [1, 2, 3, 6, 7, 8] hp rfl rfl rfl rfl) ⟨c ++ [y], d, by rw [e3]; simp, rfl, by rw [hw2], by rw [List.map_append, lA]; rfl⟩
set_option maxHeartbeats 20000000 in
theorem weave3_no (p : Prg) (ho : okP p) (pts : List (List Int)) (hp0 : pts.length ≤ 1000000) (h : checkC p ≠ 0 ∨ pts.length > p.threads.length) : Pure prog Tabs 14 [.agg (cPrg p), ptR pts] (.tup [nil2, tB false]) := by
 have c1 := check_spec2 p ho
 have hml : (pts.map fun l => [rwI l]).length = pts.length := lM ..
 have hmt : (p.threads.map cTh).length = p.threads.length := lM ..
 have ho3 := ho.2.2.1
 by_cases hc : checkC p = 0
 ·rw [hc] at c1
  have hl : pts.length > p.threads.length := h.resolve_left (fun h => h hc)
  refine Pure.at mixedOk F14 rfl fun C hP hG hp => goF ?_; simp only [F14, targEnv, Nat.zero_add, Nat.reduceAdd]
  repeat' (first | refine goR rfl ?_ | refine goS rfl ?_ | refine tret1 rfl ?_ | refine tretN rfl ?_ | refine gY rfl rfl ?_ | refine gN rfl rfl ?_ | refine qT rfl rfl ?_ | refine qF rfl rfl ?_ | refine cA rfl (by rw [hP, hG]; exact c1) rfl ?_ | refine qT rfl (dT (by omega)) ?_ | fail)
  exact .tupL (.cons (.aggL (.cons (.f _ rfl) (.cons (.f _ rfl) .nil))) (.cons (.f _ rfl) .nil))
 ·refine Pure.at mixedOk F14 rfl fun C hP hG hp => goF ?_; simp only [F14, targEnv, Nat.zero_add, Nat.reduceAdd]
  repeat' (first | refine goR rfl ?_ | refine goS rfl ?_ | refine tret1 rfl ?_ | refine tretN rfl ?_ | refine gY rfl rfl ?_ | refine gN rfl rfl ?_ | refine qT rfl rfl ?_ | refine qF rfl rfl ?_ | refine cA rfl (by rw [hP, hG]; exact c1) rfl ?_ | ((first | refine gS rfl (fun h => ?_) (fun h => ?_) | refine ts_cond rfl (fun h => ?_) (fun h => ?_)) <;> (try simp only [bs0, beq_iff_eq] at h) <;> try (exfalso; first | omega | exact hc h | exact h hc | exact hc (of_decide_eq_true h); done)) | fail)
  all_goals exact .tupL (.cons (.aggL (.cons (.f _ rfl) (.cons (.f _ rfl) .nil))) (.cons (.f _ rfl) .nil))
set_option maxHeartbeats 20000000 in
theorem weave3_spec (p : Prg) (ho : okP p) (hc : checkC p = 0) (hb : ∀ t ∈ p.threads, t.length ≤ 100000) (pts : List (List Int)) (hp0 : pts.length ≤ p.threads.length) (hp1 : ∀ l ∈ pts, l.length ≤ 1000000) :
  Pure prog Tabs 14 [.agg (cPrg p), ptR pts] (if inL pts p.threads = true then .tup [.agg (cPrg (wvP p pts)), tB true] else .tup [nil2, tB false]) := by
 have c1 := check_spec2 p ho
 rw [hc] at c1
 have hml : (pts.map fun l => [rwI l]).length = pts.length := lM ..
 have hmt : (p.threads.map cTh).length = p.threads.length := lM ..
 have ho3 := ho.2.2.1
 obtain ⟨_, hk2, _, _⟩ := check_syms hc
 have c3 := copyR_own (G := Tabs) p ho
 refine Pure.at mixedOk F14 rfl fun C hP hG hp => goF ?_; simp only [F14, targEnv, Nat.zero_add, Nat.reduceAdd]
 repeat' (first | refine goR rfl ?_ | refine goS rfl ?_ | refine tret1 rfl ?_ | refine tretN rfl ?_ | refine gY rfl rfl ?_ | refine gN rfl rfl ?_ | refine qT rfl rfl ?_ | refine qF rfl rfl ?_ | refine cA rfl (by rw [hP, hG]; exact c1) rfl ?_ | refine qF rfl (dF (by omega)) ?_ | refine tr_mcallX hP hG (c3) rfl rfl rfl rfl rfl rfl rfl rfl rfl rfl rfl rfl ?_ | fail)
 refine loopS (fun m env σ => ∃ a b, pts = a ++ b ∧ m = b.length ∧ inL pts p.threads = inL b (p.threads.drop a.length) ∧ env = [(1, ptR pts), (2, .p 0 0), (4, .p 1 0), (6, .p 2 0), (7, tI a.length)] ∧
  σ = ⟨[(0, .cells (cPrg p) 28), (1, .cells [.v (.slice none 0 0), .v (.slice none 0 0)] 28), (2, .cells [.lst 3 (p.syms.map cSym), .s 3 1 0 p.threads.length true] 28), (3, .rows 1 ((mixT pts p.threads a.length).map cTh) 69)], 60⟩) pts.length
  (w_canon 60 [] [1, 2, 4, 6, 7] hp rfl rfl rfl rfl) ⟨[], pts, rfl, rfl, rfl, rfl, by rw [List.length_nil, mix_0]; rfl⟩ ?_
 rintro m1 env σ ⟨a, b, e, rfl, hF, rfl, rfl⟩
 have hla : pts.length = a.length + b.length := by rw [e, lA]
 cases b with
 | nil =>
  rw [List.length_nil] at hla
  have hF : inL pts p.threads = true := hF
  rw [if_pos hF, mix_end pts p.threads (by omega) (by omega)]
  repeat' (first | refine goR rfl ?_ | refine goS rfl ?_ | refine tret1 rfl ?_ | refine tretN rfl ?_ | refine gY rfl rfl ?_ | refine gN rfl rfl ?_ | refine qT rfl rfl ?_ | refine qF rfl rfl ?_ | refine qF rfl (dF (by omega)) ?_ | fail)
  exact .tupL (.cons (.aggL (.cons (.f _ rfl) (.cons (.s _ 1 _ true _ 69 rfl (by rw [lM]; exact (wvT_len pts p.threads).symm)) .nil))) (.cons (.f _ rfl) .nil))
 | cons l b =>
  have hx : pts[a.length]? = some l := by rw [e]; exact ix
  simp only [List.length_cons] at hla
  have hlt : a.length < p.threads.length := by omega
  have hy : p.threads[a.length]? = some p.threads[a.length] := List.getElem?_eq_getElem hlt
  have hll := hp1 l (by rw [e]; simp)
  have hyb := hb _ (List.getElem_mem hlt)
  have hok := ho.2.2.2 _ (List.getElem_mem hlt)
  rw [List.drop_eq_getElem_cons hlt] at hF
  generalize p.threads[a.length] = x at *
  have hxl : (x.map cIns).length = x.length := lM ..
  have hw1 : IntKind.i64.wrap ((a.length : Int) + 1) = ((a ++ [l]).length : Int) := by rw [w64 (by omega), lA]; rfl
  have c2 := rising_spec (G := Tabs) l hll
  have hF : inL pts p.threads = ((ordF none l && lastOk l x.length) && inL b (p.threads.drop (a.length + 1))) := hF
  have hgd : pts.getD a.length [] = l := by rw [List.getD_eq_getElem?_getD, hx]; rfl
  have hmk : ((mixT pts p.threads a.length).map cTh).length = p.threads.length := by rw [lM, mix_len pts _ (by omega)]
  have hmg : ((mixT pts p.threads a.length).map cTh)[a.length]? = some (cTh x) := by rw [List.getElem?_map, mix_get pts hy]; rfl
  have hms := mix_set pts hy
  rw [hgd] at hms
  cases ho2 : ordF none l with
  | false =>
   rw [ho2] at c2 hF
   rw [show inL pts p.threads = false by rw [hF]; rfl, if_neg Bool.false_ne_true]
   repeat' (first | refine goR rfl ?_ | refine goS rfl ?_ | refine tret1 rfl ?_ | refine tretN rfl ?_ | refine gY rfl rfl ?_ | refine gN rfl rfl ?_ | refine qT rfl rfl ?_ | refine qF rfl rfl ?_ | refine qT rfl (dT (by omega)) ?_ | refine lT (tl_ixm rfl rfl rfl hx) ?_ | refine lT (tl_ixm rfl rfl rfl hy) ?_ | refine cA rfl (by rw [hP, hG]; exact c2) rfl ?_ | fail)
   exact .tupL (.cons (.aggL (.cons (.f _ rfl) (.cons (.f _ rfl) .nil))) (.cons (.f _ rfl) .nil))
  | true =>
   rw [ho2] at c2 hF
   have hr := ord_rises ho2
   have hFn : lastOk l x.length = true → inL pts p.threads = inL b (p.threads.drop (a ++ [l]).length) := fun h => by rw [hF, h, lA]; rfl
   have hinv : ∃ c : List Ins, c = [] := ⟨[], rfl⟩
   have key : lastOk l x.length = false ∨ lastOk l x.length = true := by cases lastOk l x.length <;> simp
   have hI := fun v => in3_spec (G := Tabs) l hll v
   rcases List.eq_nil_or_concat l with rfl | ⟨l', q, rfl⟩
   ·have hFn := hFn rfl
    repeat' (first | refine goR rfl ?_ | refine goS rfl ?_ | refine tret1 rfl ?_ | refine tretN rfl ?_ | refine gY rfl rfl ?_ | refine gN rfl rfl ?_ | refine qT rfl rfl ?_ | refine qF rfl rfl ?_ | refine qT rfl (dT (by omega)) ?_ | refine lT (tl_ixm rfl rfl rfl hx) ?_ | refine lT (tl_ixm rfl rfl rfl hy) ?_ | refine cA rfl (by rw [hP, hG]; exact c2) rfl ?_ | fail)
    refine loopS (fun m env σ => ∃ c d, x = c ++ d ∧ m = d.length ∧ env = [(1, ptR pts), (2, .p 0 0), (4, .p 1 0), (6, .p 2 0), (7, tI a.length), (8, .lst 13 (x.map cIns)), (9, .s 4 13 0 (wvL ([] : List Int) 0 c).length true), (10, tI c.length)] ∧
     σ = ⟨[(0, .cells (cPrg p) 28), (1, .cells [.v (.slice none 0 0), .v (.slice none 0 0)] 28), (2, .cells [.lst 3 (p.syms.map cSym), .s 3 1 0 p.threads.length true] 28), (3, .rows 1 ((mixT pts p.threads a.length).map cTh) 69), (4, .rows 13 ((wvL ([] : List Int) 0 c).map cIns) 74)], 60⟩) x.length
     ((w_virt (d := 9) 13 74 rfl).trans (w_canon 60 [] [1, 2, 4, 6, 7, 8, 9, 10] hp rfl rfl rfl rfl)) ⟨[], x, rfl, rfl, rfl, rfl⟩ ?_
    rintro m3 env σ ⟨c, d, e3, rfl, rfl, rfl⟩
    have hlc : x.length = c.length + d.length := by rw [e3, lA]
    cases d with
    | nil =>
     rw [List.length_nil] at hlc
     rw [List.append_nil] at e3
     subst e3
     have hse : ((mixT pts p.threads a.length).map cTh).set a.length [.lst 13 ((wvL ([] : List Int) 0 x).map cIns)] = (mixT pts p.threads (a.length + 1)).map cTh := by rw [← hms, List.map_set]; rfl
     refine ts_weak (w_frzS 9 rfl rfl (by rw [lM])) ?_
     repeat' (first | refine goR rfl ?_ | refine goS rfl ?_ | refine tret1 rfl ?_ | refine tretN rfl ?_ | refine gY rfl rfl ?_ | refine gN rfl rfl ?_ | refine qT rfl rfl ?_ | refine qF rfl rfl ?_ | refine qF rfl (dF (by omega)) ?_ | refine lT (tl_ixo (m := a.length) rfl rfl rfl hlt) ?_ | refine tr_storeE rfl rfl hmg rfl rfl rfl rfl rfl rfl ?_ | fail)
     exact again (m' := b.length) (Nat.lt_succ_self _) (w_canon 60 [] [1, 2, 4, 6, 7] hp rfl rfl rfl rfl) ⟨a ++ [([] : List Int)], b, by rw [e]; simp, rfl, hFn, by rw [hw1], by rw [show mixT pts p.threads (a ++ [([] : List Int)]).length = mixT pts p.threads (a.length + 1) by rw [lA]; rfl, ← hse]; rfl⟩
    | cons y d =>
     have hyx : x[c.length]? = some y := by rw [e3]; exact ix
     simp only [List.length_cons] at hlc
     have hys := (hok.2 y (by rw [e3]; simp)).2.1
     have cI := copyIns_spec (G := Tabs) y (by omega)
     have cN := hI (c.length : Int)
     have hwl : (wvL ([] : List Int) 0 c).length ≤ 2 * c.length := by
      rw [wvL_len]
      have : ∀ (n k : Nat), cutN ([] : List Int) k n ≤ n := by
       intro n
       induction n with
       | zero => intro k; exact Nat.le_refl _
       | succ n ih => intro k; have := ih (k + 1); rw [cutN]; split <;> omega
      have := this c.length 0
      omega
     have hsn := wvL_snoc ([] : List Int) c 0 y
     rw [Nat.zero_add] at hsn
     have hw3 : IntKind.i64.wrap ((c.length : Int) + 1) = ((c ++ [y]).length : Int) := by rw [w64 (by omega), lA]; rfl
     by_cases hin : (c.length : Int) ∈ ([] : List Int)
     ·rw [if_pos hin] at hsn
      rw [dT hin] at cN
      repeat' (first | refine goR rfl ?_ | refine goS rfl ?_ | refine tret1 rfl ?_ | refine tretN rfl ?_ | refine gY rfl rfl ?_ | refine gN rfl rfl ?_ | refine qT rfl rfl ?_ | refine qF rfl rfl ?_ | refine qT rfl (dT (by omega)) ?_ | refine lT (tl_ixm rfl rfl rfl hx) ?_ | refine lT (tl_ixm rfl rfl rfl hyx) ?_ | refine cA rfl (by rw [hP, hG]; exact cI) rfl ?_ | refine cA rfl (by rw [hP, hG]; exact cN) rfl ?_ | refine tr_append rfl rfl (by simp only [lA, lM, List.length_cons, List.length_nil]) (.inr (.inr ⟨_, _, _, _, rfl, rfl, rfl⟩)) (by simp only [List.length_cons, List.length_nil]; omega) rfl ?_ | fail)
      refine again (m' := d.length) (Nat.lt_succ_self _) ((w_canon 60 [] [1, 2, 4, 6, 7, 8, 9, 10] hp rfl rfl rfl rfl).trans (w_rowsN (k := 4) (r' := cIns (bareI y)) rfl ?_)) ⟨c ++ [y], d, by rw [e3]; simp, rfl, by rw [hw3, hsn, @lA _ (wvL ([] : List Int) 0 c)]; rfl, by rw [hsn, List.map_append]; simp only [List.append_assoc]; rfl⟩
      exact .cons (.refl _) (.cons (.refl _) (.cons (.refl _) (.cons (.refl _) (.cons (.refl _) (.cons (.refl _) (.cons (.refl _) (.cons (.refl _) (.cons (.refl _) (.cons (.refl _) (.cons (.refl _) (.cons (.refl _) (.cons (.nil 1) .nil))))))))))))
     ·rw [if_neg hin] at hsn
      rw [dF hin] at cN
      repeat' (first | refine goR rfl ?_ | refine goS rfl ?_ | refine tret1 rfl ?_ | refine tretN rfl ?_ | refine gY rfl rfl ?_ | refine gN rfl rfl ?_ | refine qT rfl rfl ?_ | refine qF rfl rfl ?_ | refine qT rfl (dT (by omega)) ?_ | refine lT (tl_ixm rfl rfl rfl hx) ?_ | refine lT (tl_ixm rfl rfl rfl hyx) ?_ | refine cA rfl (by rw [hP, hG]; exact cI) rfl ?_ | refine cA rfl (by rw [hP, hG]; exact cN) rfl ?_ | refine tr_append rfl rfl (by simp only [lM]) (.inr (.inr ⟨_, _, _, _, rfl, rfl, rfl⟩)) (by simp only [List.length_cons, List.length_nil]; omega) rfl ?_ | fail)
      exact again (m' := d.length) (Nat.lt_succ_self _) (w_canon 60 [] [1, 2, 4, 6, 7, 8, 9, 10] hp rfl rfl rfl rfl) ⟨c ++ [y], d, by rw [e3]; simp, rfl, by rw [hw3, hsn, @lA _ (wvL ([] : List Int) 0 c)]; rfl, by rw [hsn, List.map_append]; rfl⟩
   ·simp only [List.concat_eq_append] at *
    have hal : (l' ++ [q]).length = l'.length + 1 := by rw [lA]; rfl
    have hlm : ((l' ++ [q]).map fun n => [tI n]).length = l'.length + 1 := by rw [lM, hal]
    have hq : (l' ++ [q])[l'.length]? = some q := by rw [List.getElem?_append_right (Nat.le_refl _), Nat.sub_self]; rfl
    have hw2 : IntKind.i64.wrap ((((l' ++ [q]).map fun n => [tI n]).length : Int) - 1) = (l'.length : Int) := by rw [hlm, w64 (by omega)]; omega
    have hlo : lastOk (l' ++ [q]) x.length = decide (q < x.length) := by unfold lastOk; rw [getLast_snoc]
    by_cases hql : q < (x.length : Int)
    ·rw [dT hql] at hlo
     have hFn := hFn hlo
     repeat' (first | refine goR rfl ?_ | refine goS rfl ?_ | refine tret1 rfl ?_ | refine tretN rfl ?_ | refine gY rfl rfl ?_ | refine gN rfl rfl ?_ | refine qT rfl rfl ?_ | refine qF rfl rfl ?_ | refine qT rfl (dT (by omega)) ?_ | refine qF rfl (dF (by omega)) ?_ | refine tg_t rfl (dT (by omega)) ?_ | refine lT (tl_ixm rfl rfl rfl hx) ?_ | refine lT (tl_ixm rfl rfl rfl hy) ?_ | refine lT (tl_ixm (m := l'.length) rfl rfl hw2 hq) ?_ | refine cA rfl (by rw [hP, hG]; exact c2) rfl ?_ | fail)
     generalize hlq : l' ++ [q] = l at *
     refine loopS (fun m env σ => ∃ c d, x = c ++ d ∧ m = d.length ∧ env = [(1, ptR pts), (2, .p 0 0), (4, .p 1 0), (6, .p 2 0), (7, tI a.length), (8, .lst 13 (x.map cIns)), (9, .s 4 13 0 (wvL l 0 c).length true), (10, tI c.length)] ∧
      σ = ⟨[(0, .cells (cPrg p) 28), (1, .cells [.v (.slice none 0 0), .v (.slice none 0 0)] 28), (2, .cells [.lst 3 (p.syms.map cSym), .s 3 1 0 p.threads.length true] 28), (3, .rows 1 ((mixT pts p.threads a.length).map cTh) 69), (4, .rows 13 ((wvL l 0 c).map cIns) 74)], 60⟩) x.length
      ((w_virt (d := 9) 13 74 rfl).trans (w_canon 60 [] [1, 2, 4, 6, 7, 8, 9, 10] hp rfl rfl rfl rfl)) ⟨[], x, rfl, rfl, rfl, rfl⟩ ?_
     rintro m3 env σ ⟨c, d, e3, rfl, rfl, rfl⟩
     have hlc : x.length = c.length + d.length := by rw [e3, lA]
     cases d with
     | nil =>
      rw [List.length_nil] at hlc
      rw [List.append_nil] at e3
      subst e3
      have hse : ((mixT pts p.threads a.length).map cTh).set a.length [.lst 13 ((wvL l 0 x).map cIns)] = (mixT pts p.threads (a.length + 1)).map cTh := by rw [← hms, List.map_set]; rfl
      refine ts_weak (w_frzS 9 rfl rfl (by rw [lM])) ?_
      repeat' (first | refine goR rfl ?_ | refine goS rfl ?_ | refine tret1 rfl ?_ | refine tretN rfl ?_ | refine gY rfl rfl ?_ | refine gN rfl rfl ?_ | refine qT rfl rfl ?_ | refine qF rfl rfl ?_ | refine qF rfl (dF (by omega)) ?_ | refine lT (tl_ixo (m := a.length) rfl rfl rfl hlt) ?_ | refine tr_storeE rfl rfl hmg rfl rfl rfl rfl rfl rfl ?_ | fail)
      exact again (m' := b.length) (Nat.lt_succ_self _) (w_canon 60 [] [1, 2, 4, 6, 7] hp rfl rfl rfl rfl) ⟨a ++ [l], b, by rw [e]; simp, rfl, hFn, by rw [hw1], by rw [show mixT pts p.threads (a ++ [l]).length = mixT pts p.threads (a.length + 1) by rw [lA]; rfl, ← hse]; rfl⟩
     | cons y d =>
      have hyx : x[c.length]? = some y := by rw [e3]; exact ix
      simp only [List.length_cons] at hlc
      have hys := (hok.2 y (by rw [e3]; simp)).2.1
      have cI := copyIns_spec (G := Tabs) y (by omega)
      have cN := hI (c.length : Int)
      have hwl : (wvL l 0 c).length ≤ 2 * c.length := by
       rw [wvL_len]
       have : ∀ (n k : Nat), cutN l k n ≤ n := by
        intro n
        induction n with
        | zero => intro k; exact Nat.le_refl _
        | succ n ih => intro k; have := ih (k + 1); rw [cutN]; split <;> omega
       have := this c.length 0
       omega
      have hsn := wvL_snoc l c 0 y
      rw [Nat.zero_add] at hsn
      have hw3 : IntKind.i64.wrap ((c.length : Int) + 1) = ((c ++ [y]).length : Int) := by rw [w64 (by omega), lA]; rfl
      by_cases hin : (c.length : Int) ∈ l
      ·rw [if_pos hin] at hsn
       rw [dT hin] at cN
       repeat' (first | refine goR rfl ?_ | refine goS rfl ?_ | refine tret1 rfl ?_ | refine tretN rfl ?_ | refine gY rfl rfl ?_ | refine gN rfl rfl ?_ | refine qT rfl rfl ?_ | refine qF rfl rfl ?_ | refine qT rfl (dT (by omega)) ?_ | refine lT (tl_ixm rfl rfl rfl hx) ?_ | refine lT (tl_ixm rfl rfl rfl hyx) ?_ | refine cA rfl (by rw [hP, hG]; exact cI) rfl ?_ | refine cA rfl (by rw [hP, hG]; exact cN) rfl ?_ | refine tr_append rfl rfl (by simp only [lA, lM, List.length_cons, List.length_nil]) (.inr (.inr ⟨_, _, _, _, rfl, rfl, rfl⟩)) (by simp only [List.length_cons, List.length_nil]; omega) rfl ?_ | fail)
       refine again (m' := d.length) (Nat.lt_succ_self _) ((w_canon 60 [] [1, 2, 4, 6, 7, 8, 9, 10] hp rfl rfl rfl rfl).trans (w_rowsN (k := 4) (r' := cIns (bareI y)) rfl ?_)) ⟨c ++ [y], d, by rw [e3]; simp, rfl, by rw [hw3, hsn, @lA _ (wvL l 0 c)]; rfl, by rw [hsn, List.map_append]; simp only [List.append_assoc]; rfl⟩
       exact .cons (.refl _) (.cons (.refl _) (.cons (.refl _) (.cons (.refl _) (.cons (.refl _) (.cons (.refl _) (.cons (.refl _) (.cons (.refl _) (.cons (.refl _) (.cons (.refl _) (.cons (.refl _) (.cons (.refl _) (.cons (.nil 1) .nil))))))))))))
      ·rw [if_neg hin] at hsn
       rw [dF hin] at cN
       repeat' (first | refine goR rfl ?_ | refine goS rfl ?_ | refine tret1 rfl ?_ | refine tretN rfl ?_ | refine gY rfl rfl ?_ | refine gN rfl rfl ?_ | refine qT rfl rfl ?_ | refine qF rfl rfl ?_ | refine qT rfl (dT (by omega)) ?_ | refine lT (tl_ixm rfl rfl rfl hx) ?_ | refine lT (tl_ixm rfl rfl rfl hyx) ?_ | refine cA rfl (by rw [hP, hG]; exact cI) rfl ?_ | refine cA rfl (by rw [hP, hG]; exact cN) rfl ?_ | refine tr_append rfl rfl (by simp only [lM]) (.inr (.inr ⟨_, _, _, _, rfl, rfl, rfl⟩)) (by simp only [List.length_cons, List.length_nil]; omega) rfl ?_ | fail)
       exact again (m' := d.length) (Nat.lt_succ_self _) (w_canon 60 [] [1, 2, 4, 6, 7, 8, 9, 10] hp rfl rfl rfl rfl) ⟨c ++ [y], d, by rw [e3]; simp, rfl, by rw [hw3, hsn, @lA _ (wvL l 0 c)]; rfl, by rw [hsn, List.map_append]; rfl⟩
    ·rw [dF hql] at hlo
     rw [hlo] at hF
     rw [show inL pts p.threads = false by rw [hF]; rfl, if_neg Bool.false_ne_true]
     repeat' (first | refine goR rfl ?_ | refine goS rfl ?_ | refine tret1 rfl ?_ | refine tretN rfl ?_ | refine gY rfl rfl ?_ | refine gN rfl rfl ?_ | refine qT rfl rfl ?_ | refine qF rfl rfl ?_ | refine qT rfl (dT (by omega)) ?_ | refine tg_t rfl (dT (by omega)) ?_ | refine lT (tl_ixm rfl rfl rfl hx) ?_ | refine lT (tl_ixm rfl rfl rfl hy) ?_ | refine lT (tl_ixm (m := l'.length) rfl rfl hw2 hq) ?_ | refine cA rfl (by rw [hP, hG]; exact c2) rfl ?_ | ((first | refine gS rfl (fun h => ?_) (fun h => ?_) | refine ts_cond rfl (fun h => ?_) (fun h => ?_)) <;> (try simp only [bs0, beq_iff_eq] at h) <;> try (exfalso; omega; done)) | fail)
     all_goals exact .tupL (.cons (.aggL (.cons (.f _ rfl) (.cons (.f _ rfl) .nil))) (.cons (.f _ rfl) .nil))
end
end Go.Proofs.YtnphhelbianjpaaGreatDoor
namespace Go.Proofs.YtnphhelbianjpaaGreatDoor
set_option maxRecDepth 20000
open Go Go.Proofs.YtnphhelbianjpaaGreatDoor.V Go.Proofs
section
attribute [local irreducible] TwS TwR thenT inBlockT retT nextW localW loadedW swapW scW stepB flushW
variable {G : World → Prop}
set_option maxHeartbeats 20000000 in
theorem copyF_own (s : State) (ho : okS s) : TC prog G 37 [.agg (cState s)] ⟨[], 0⟩ [] (fun r σ' => r = .agg [.s 0 1 0 s.mem.length true, .s 1 16 0 s.thr.length true, .s 2 1 0 s.bufs.length true, tI s.lock] ∧ σ' = ⟨[(0, memT s), (1, thrT s), (2, .rows 1 (s.bufs.map cBuf) 103)], 6⟩) := by
 obtain ⟨h1, h2, h3, h4⟩ := ho
 have e1 : (s.mem.map fun n => [tI n]).length = s.mem.length := lM ..
 have e2 : (s.thr.map cThr).length = s.thr.length := lM ..
 have e5 : (s.bufs.map cBuf).length = s.bufs.length := lM ..
 refine TC.at mixedOk F37 rfl fun C hP hG hp => goF ?_; simp only [F37, targEnv, Nat.zero_add, Nat.reduceAdd]
 repeat' (first | refine goR rfl ?_ | refine goS rfl ?_ | refine tret1 rfl ?_ | refine tretN rfl ?_ | refine gY rfl rfl ?_ | refine gN rfl rfl ?_ | refine qT rfl rfl ?_ | refine qF rfl rfl ?_ | refine tr_append0 rfl (.inl rfl) (by omega) rfl ?_ | fail)
 refine loopS (fun m env σ => ∃ a b, s.bufs = a ++ b ∧ m = b.length ∧ env = [(1, .p 0 0), (2, .p 1 0), (3, .p 2 0), (4, tI a.length)] ∧
  σ = ⟨[(0, .cells (cState s) 46), (1, .cells [.v (.slice none 0 0), .v (.slice none 0 0), .v (.slice none 0 0), tI 0] 46), (2, .cells [.s 3 1 0 (s.mem.map fun n => [tI n]).length true, .s 4 16 0 (s.thr.map cThr).length true, .s 5 1 0 a.length true, tI s.lock] 46), (3, memT s), (4, thrT s), (5, .rows 1 (a.map cBuf) 103)], 6⟩) s.bufs.length
  ((w_virtC (j := 2) (i := 2) 1 103 rfl rfl).trans (w_canon 6 [] [1, 2, 3, 4] hp rfl rfl rfl rfl)) ⟨[], s.bufs, rfl, rfl, rfl, rfl⟩ ?_
 rintro m env σ ⟨a, b, e, rfl, rfl, rfl⟩
 have hla : s.bufs.length = a.length + b.length := by rw [e, lA]
 cases b with
 | nil =>
  rw [List.length_nil] at hla
  rw [List.append_nil] at e
  repeat' (first | refine goR rfl ?_ | refine goS rfl ?_ | refine tret1 rfl ?_ | refine tretN rfl ?_ | refine gY rfl rfl ?_ | refine gN rfl rfl ?_ | refine qT rfl rfl ?_ | refine qF rfl rfl ?_ | refine qF rfl (dF (by omega)) ?_ | fail)
  rw [e1, e2, ← e]
  exact tretX 6 [] rfl hp rfl rfl rfl rfl ⟨rfl, rfl⟩
 | cons x b =>
  have hx : s.bufs[a.length]? = some x := by rw [e]; exact ix
  simp only [List.length_cons] at hla
  have hxl := h4 x (by rw [e]; simp)
  have e3 : (x.map cEntry).length = x.length := lM ..
  have hw1 : IntKind.i64.wrap ((a.length : Int) + 1) = ((a ++ [x]).length : Int) := by rw [w64 (by omega), lA]; rfl
  repeat' (first | refine goR rfl ?_ | refine goS rfl ?_ | refine tret1 rfl ?_ | refine tretN rfl ?_ | refine gY rfl rfl ?_ | refine gN rfl rfl ?_ | refine qT rfl rfl ?_ | refine qF rfl rfl ?_ | refine qT rfl (dT (by omega)) ?_ | refine lT (tl_ixm rfl rfl rfl hx) ?_ | refine tr_append0 rfl (.inl rfl) (by omega) rfl ?_ | refine tr_frzS 30 rfl rfl rfl ?_ | refine tr_append rfl rfl (by rw [lM]) (.inr (.inr ⟨_, _, _, _, rfl, rfl, rfl⟩)) (by simp only [List.length_cons, List.length_nil]; omega) rfl ?_ | fail)
  refine again (m' := b.length) (Nat.lt_succ_self _) (w_canon 6 [] [1, 2, 3, 4] hp rfl rfl rfl rfl) ⟨a ++ [x], b, by rw [e]; simp, rfl, by rw [hw1], by rw [List.map_append, lA]; rfl⟩
end
end Go.Proofs.YtnphhelbianjpaaGreatDoor
