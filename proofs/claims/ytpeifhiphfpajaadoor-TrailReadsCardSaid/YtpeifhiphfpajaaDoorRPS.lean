/-
  Walks of functions of the program, and what the laws need of them.
-/
import Derived.Test.YtpeifhiphfpajaaDoorRPR
set_option linter.all false
set_option linter.unusedSimpArgs false
set_option linter.unusedVariables false
set_option linter.unnecessarySimpa false
namespace Go.Proofs.YtpeifhiphfpajaaDoor
set_option maxRecDepth 20000
open Go Go.Proofs.YtpeifhiphfpajaaDoor.V Go.Proofs
theorem trailR_len (p : Prg) (hc : checkC p = 0) (l : List Pk) : (trailR p l).es.length ≤ l.length := by
 obtain ⟨b1, b2⟩ := beginR_ok p
 obtain ⟨r1, r2⟩ := run_ok hc l b1 b2
 obtain ⟨_, _, _, g4⟩ := drRA_ok hc r1 r2 p.threads.length (by rw [r1.th]; exact Nat.le_refl _)
 have key : ∀ (l : List Pk) (r : Tr), (trL p r l).es.length ≤ r.es.length + l.length := by
  intro l
  induction l with
  | nil => intro r; exact Nat.le_refl _
  | cons x l ih =>
   intro r
   have h1 := (trS_len p r x).1
   have h2 := ih (trS p r x)
   show (trL p (trS p r x) l).es.length ≤ _
   rw [List.length_cons]; omega
 have := key l (beginR p)
 have e : (beginR p).es.length = 0 := rfl
 show (drRA p _ _).es.length ≤ _
 rw [g4]; omega
section
attribute [local irreducible] TwS TwR thenT inBlockT retT nextW localW loadedW swapW Rg.push Rg.pop trailR
set_option maxHeartbeats 20000000 in
theorem trailReads (l : List (List Act)) (hl : ∀ r ∈ l, ∀ a ∈ r, inR a.n) (picks : List Int) : Pure prog Tabs 4 [cActs l, rwI picks] (tB true) := by
 obtain ⟨p, ho, hc, hn, c1, h3, hq, _⟩ := book_sc l hl
 have hth : (p.threads.map cTh).length = p.threads.length := lM ..
 have c4 := picks_own (G := Tabs) picks (p.threads.map cTh).length 60 (by omega) (by decide)
 have hsl := picksF_len picks (p.threads.map cTh).length 60
 generalize picksF picks (p.threads.map cTh).length 60 = row at c4 hsl
 have hsm : (row.map cPick).length = row.length := lM ..
 have c6 := trailOf_spec p ho hc hn hq h3 row (by omega) (fun h hm x => do_own p h hm x)
 have hel := trailR_len p hc row
 obtain ⟨g1, g2, g3⟩ := trail_ok hc row
 have hmm := g2.mm
 have hfr := g2.fr
 have hpl : ∀ (i : Nat) (e : Ev), (trailR p row).es[i]? = some e → 0 ≤ e.frm → ∃ w, (trailR p row).es[e.frm.toNat]? = some w ∧ w.addr = e.addr ∧ 0 ≤ w.place := fun i e he h0 => by
  obtain ⟨w, a1, a2, a3⟩ := hfr i e he h0
  exact ⟨w, a1, a2, a3.elim id fun h => g3 _ w a1 h⟩
 have c11 := aliveR_spec
 clear g1 g2 g3 hfr
 generalize (trailR p row).es = es at *
 have hem : (es.map cEv).length = es.length := lM ..
 refine Pure.at mixedOk F4 rfl fun C hP hG hp => goF ?_; simp only [F4, targEnv, Nat.zero_add, Nat.reduceAdd]
 repeat' (first | refine goR rfl ?_ | refine goS rfl ?_ | refine tret1 rfl ?_ | refine tretN rfl ?_ | refine gY rfl rfl ?_ | refine gN rfl rfl ?_ | refine qT rfl rfl ?_ | refine qF rfl rfl ?_ | refine cA rfl (by rw [hP]; exact c1 _) rfl ?_ | (refine tr_mcallX hP hG (c4) rfl rfl rfl rfl rfl rfl rfl rfl rfl rfl rfl rfl ?_; refine tr_frzS 18 rfl rfl hsm.symm ?_) | refine cA rfl (by rw [hP, hG]; exact c6) rfl ?_ | fail)
 refine loopS (fun m env σ => ∃ a b, es = a ++ b ∧ m = b.length ∧ env = [(6, .lst 6 (es.map cEv)), (7, tI a.length)] ∧ σ = ⟨[], 60⟩) es.length (w_canon 60 [] [6, 7] hp rfl rfl rfl rfl) ⟨[], es, rfl, rfl, rfl, rfl⟩ ?_
 rintro m1 env σ ⟨a, b, e, rfl, rfl, rfl⟩
 have hla : es.length = a.length + b.length := by rw [e, lA]
 cases b with
 | nil =>
  rw [List.length_nil] at hla
  repeat' (first | refine goR rfl ?_ | refine goS rfl ?_ | refine tret1 rfl ?_ | refine tretN rfl ?_ | refine gY rfl rfl ?_ | refine gN rfl rfl ?_ | refine qT rfl rfl ?_ | refine qF rfl rfl ?_ | refine qF rfl (dF (by omega)) ?_ | refine cA rfl (by rw [hP, hG]; exact c11) rfl ?_ | fail)
  exact .fr rfl
 | cons x b =>
  have hx : es[a.length]? = some x := by rw [e]; exact ix
  simp only [List.length_cons] at hla
  have hw1 : IntKind.i64.wrap ((a.length : Int) + 1) = ((a ++ [x]).length : Int) := by rw [w64 (by omega), lA]; rfl
  have hm := hmm _ _ hx
  have hp2 := hpl _ _ hx
  have hxx := hx
  obtain ⟨th, ins, kd, ad, fr, pl⟩ := x
  unfold memEv at hm
  simp only at hm hp2
  have hk4 : kd = 2 ∨ kd = 3 ∨ kd = 4 ∨ ¬ (kd = 2 ∨ kd = 3 ∨ kd = 4) := by omega
  by_cases h0 : 0 ≤ fr
  ·have h7 : kd = 2 ∨ kd = 4 := by
    rcases hk4 with h | h | h | h
    ·exact .inl h
    ·exact absurd (hm.2.2.2 (by omega)) (by omega)
    ·exact .inr h
    ·exact absurd (hm.2.2.2 (by omega)) (by omega)
   obtain ⟨w, w1, w2, w3⟩ := hp2 h0
   clear hp2
   obtain ⟨f, rfl⟩ : ∃ f : Nat, fr = f := ⟨fr.toNat, by omega⟩
   rw [Int.toNat_natCast] at w1
   obtain ⟨th', ins', kd', ad', fr', pl'⟩ := w
   simp only at w2 w3
   repeat' (first | refine goR rfl ?_ | refine goS rfl ?_ | refine tret1 rfl ?_ | refine tretN rfl ?_ | refine gY rfl rfl ?_ | refine gN rfl rfl ?_ | refine qT rfl rfl ?_ | refine qF rfl rfl ?_ | refine qT rfl (dT (by omega)) ?_ | refine lT (tl_ixm rfl rfl rfl hx) ?_ | refine lT (tl_ixm rfl rfl rfl w1) ?_ | refine lT (tl_neb (by rw [hP]; exact ut_bool) rfl rfl) ?_ | ((first | refine gS rfl (fun h => ?_) (fun h => ?_) | refine ts_cond rfl (fun h => ?_) (fun h => ?_)) <;> (try simp only [bs0, beq_iff_eq] at h) <;> try (exfalso; (first | omega | (simp at h; omega)); done)) | fail)
   all_goals (first | exact again (m' := b.length) (Nat.lt_succ_self _) (w_canon 60 [] [6, 7] hp rfl rfl rfl rfl) ⟨a ++ [⟨th, ins, kd, ad, (f : Int), pl⟩], b, by rw [e]; simp, rfl, by rw [hw1], rfl⟩ | (exfalso; omega) | (exfalso; by_cases h9 : 0 ≤ ad <;> by_cases h8 : kd = 4 <;> first | omega | (simp [h8, h9] at h; done)) | fail)
  ·clear hp2
   obtain rfl : fr = -1 := by omega
   repeat' (first | refine goR rfl ?_ | refine goS rfl ?_ | refine tret1 rfl ?_ | refine tretN rfl ?_ | refine gY rfl rfl ?_ | refine gN rfl rfl ?_ | refine qT rfl rfl ?_ | refine qF rfl rfl ?_ | refine qT rfl (dT (by omega)) ?_ | refine lT (tl_ixm rfl rfl rfl hx) ?_ | refine lT (tl_neb (by rw [hP]; exact ut_bool) rfl rfl) ?_ | ((first | refine gS rfl (fun h => ?_) (fun h => ?_) | refine ts_cond rfl (fun h => ?_) (fun h => ?_)) <;> (try simp only [bs0, beq_iff_eq] at h) <;> try (exfalso; (first | omega | (simp at h; omega)); done)) | fail)
   all_goals (first | exact again (m' := b.length) (Nat.lt_succ_self _) (w_canon 60 [] [6, 7] hp rfl rfl rfl rfl) ⟨a ++ [⟨th, ins, kd, ad, -1, pl⟩], b, by rw [e]; simp, rfl, by rw [hw1], rfl⟩ | (exfalso; omega) | (exfalso; by_cases h9 : 0 ≤ ad <;> by_cases h8 : kd = 4 <;> first | omega | (simp [h8, h9] at h; done)) | fail)
end
end Go.Proofs.YtpeifhiphfpajaaDoor
