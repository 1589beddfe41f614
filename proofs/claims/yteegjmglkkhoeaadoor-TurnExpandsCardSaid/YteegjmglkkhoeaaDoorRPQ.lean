/-
  Walks of functions of the program, and what the laws need of them.
-/
import Derived.Test.YteegjmglkkhoeaaDoorRPO
import Derived.Test.YteegjmglkkhoeaaDoorRPK
set_option linter.all false
set_option linter.unusedSimpArgs false
set_option linter.unusedVariables false
set_option linter.unnecessarySimpa false
namespace Go.Proofs.YteegjmglkkhoeaaDoor
set_option maxRecDepth 20000
open Go Go.Proofs.YteegjmglkkhoeaaDoor.V Go.Proofs
section
attribute [local irreducible] TwS TwR thenT inBlockT retT nextW localW loadedW swapW Rg.push Rg.pop owW doO tsoW doR expL colL sO runO runT cntO cntT
set_option maxHeartbeats 20000000 in
theorem turnExpands (l : List (List Act)) (hl : ∀ r ∈ l, ∀ a ∈ r, inR a.n) (picks : List Int) : Pure prog Tabs 3 [cActs l, rwI picks] (tB true) := by
 obtain ⟨p, ho, hc, hn, c1, h3, hq, _⟩ := book_sc l hl
 have hth : (p.threads.map cTh).length = p.threads.length := lM ..
 have hqA := beginM_ok hq
 have hqO := beginO_ok hq
 have c2 := tnew_own p ho hc (start_okS hc) rfl h3
 have c3 := onew_own p ho hc (start_okS hc) rfl h3
 have c4 := picks_own (G := Tabs) picks (p.threads.map cTh).length 50 (by omega) (by decide)
 have hsl := picksF_len picks (p.threads.map cTh).length 50
 generalize picksF picks (p.threads.map cTh).length 50 = row at c4 hsl
 have hsm : (row.map cPick).length = row.length := lM ..
 have c5 := trun_own p ho hc hn (beginM p) hqA row (by omega) h3
 have c6 := expand_spec p ho hc hn hq h3 row (by omega)
 have hel := expL_len p row (startT p)
 obtain ⟨x1, x2, _⟩ := exp_all row (start_aS p)
 have c7 := orun_own p ho hc hn (beginM p) hqO (expL p (startT p) row) (by omega) h3
 have hcnt : cntO p (beginM p) (expL p (startT p) row) = (expL p (startT p) row).length := cntO_all x1
 rw [hcnt] at c7
 have hqa := hqA.run hc hn row
 have hqo := hqO.run hc hn (expL p (startT p) row)
 have c8 := tstate_own (G := Tabs) p _ hqa (by omega) (by have := hqa.memLen hc; omega) h3
 have c9 := ostate_own (G := Tabs) p _ hqo (by omega) (by have := hqo.memLen hc; omega) h3
 have hss : (runO p (beginM p) (expL p (startT p) row)).1 = (runT p (beginM p) row).1 := by rw [runO_s, runT_s]; exact x2
 have hok := hqa.okS hc (by omega) (by omega)
 have c10 := sameSt_spec (G := Tabs) _ hok
 have c11 := aliveT_spec
 clear x1 x2 hcnt
 generalize expL p (startT p) row = k at *
 have hkm : (k.map cPick).length = k.length := lM ..
 have hR0 : (beginM p).2.length ≤ 3 := by show (List.replicate _ _).length ≤ 3; rw [List.length_replicate]; exact h3
 obtain ⟨s1, R1, hq1, hl1, hR1⟩ := hqa.split hqA h3
 obtain ⟨s2, R2, hq2, hl2, hR2⟩ := hqo.split hqO h3
 rw [hq1] at c5 c8 c10 hss
 rw [hq2] at c7 c9 hss
 simp only at hss
 subst hss
 clear hqa hqo hqA hqO hq1 hq2 hok
 generalize beginM p = q0 at *
 obtain ⟨s0, R0⟩ := q0
 simp only at c2 c3 c5 c7 c8 c9 c10 hl1 hl2 hR0
 rcases rows33 hR0 hl1 with ⟨rfl, rfl⟩ | ⟨_, _, rfl, rfl⟩ | ⟨_, _, _, _, rfl, rfl⟩ | ⟨_, _, _, _, _, _, rfl, rfl⟩
 all_goals rcases rows3 hR2 with rfl | ⟨_, rfl⟩ | ⟨_, _, rfl⟩ | ⟨_, _, _, rfl⟩
 all_goals first | (exfalso; simp at hl2; done) | skip
 all_goals
  refine Pure.at mixedOk F3 rfl fun C hP hG hp => goF ?_; simp only [F3, targEnv, Nat.zero_add, Nat.reduceAdd]
  repeat' (first | refine goR rfl ?_ | refine goS rfl ?_ | refine tret1 rfl ?_ | refine tretN rfl ?_ | refine gY rfl rfl ?_ | refine gN rfl rfl ?_ | refine qT rfl rfl ?_ | refine qF rfl rfl ?_ | refine cA rfl (by rw [hP]; exact c1 _) rfl ?_ | refine tr_mcallX hP hG (c2) rfl rfl rfl rfl rfl rfl rfl rfl rfl rfl rfl rfl ?_ | refine tr_mcallX hP hG (c3) rfl rfl rfl rfl rfl rfl rfl rfl rfl rfl rfl rfl ?_ | (refine tr_mcallX hP hG (c4) rfl rfl rfl rfl rfl rfl rfl rfl rfl rfl rfl rfl ?_; refine tr_frzS 16 rfl rfl hsm.symm ?_) | refine tr_mcallX hP hG (c5) rfl rfl rfl rfl rfl rfl rfl rfl rfl rfl rfl rfl ?_ | refine cA rfl (by rw [hP, hG]; exact c6) rfl ?_ | refine tr_mcallX hP hG (c7) rfl rfl rfl rfl rfl rfl rfl rfl rfl rfl rfl rfl ?_ | refine tr_mcallX hP hG (c8) rfl rfl rfl rfl rfl rfl rfl rfl rfl rfl rfl rfl ?_ | refine tr_mcallX hP hG (c9) rfl rfl rfl rfl rfl rfl rfl rfl rfl rfl rfl rfl ?_ | refine tr_callV hP hG (c10) rfl (by (repeat' first | exact FzL.nil | refine FzL.cons ?_ ?_ | exact Fz.fr rfl | exact Fz.nil _ | exact Fz.s _ _ _ _ _ _ rfl (lM ..).symm | exact Fz.s _ _ _ _ _ _ rfl rfl | refine Fz.pL rfl ?_ | refine Fz.aggL ?_); first | done | fail) rfl ?_ | refine cA rfl (by rw [hP, hG]; exact c11) rfl ?_ | ((first | refine gS rfl (fun h => ?_) (fun h => ?_) | refine ts_cond rfl (fun h => ?_) (fun h => ?_)) <;> (try simp only [bs0, beq_iff_eq] at h) <;> try (exfalso; omega; done)) | fail)
  all_goals exact .fr rfl
end
end Go.Proofs.YteegjmglkkhoeaaDoor
