/-
  Walks of functions of the program, and what the laws need of them.
-/
import Derived.Test.YtjaipefmifbghaaGreatDoorRPL
import Derived.Test.YtjaipefmifbghaaGreatDoorRPK
set_option linter.all false
set_option linter.unusedSimpArgs false
set_option linter.unusedVariables false
set_option linter.unnecessarySimpa false
namespace Go.Proofs.YtjaipefmifbghaaGreatDoor
set_option maxRecDepth 20000
open Go Go.Proofs.YtjaipefmifbghaaGreatDoor.V Go.Proofs
def invPlaysO {p : Prg} {m0 : Nat} {s0 : State} {R0 : List Rg} (_ : oQ p m0 (s0, R0)) (row : List (Int × Bool)) (m : Nat) (env : TEnv) (σ : TS) : Prop :=
 ∃ a b, row = a ++ b ∧ m = b.length ∧ env = [(6, .p 0 0), (7, .p (4 + 2 * R0.length) 0), (5, .p (8 + 2 * R0.length) 0), (8, .lst 2 (row.map cPick)), (9, tI a.length)] ∧
  σ = ⟨owM p (runO p (s0, R0) a).1 (runO p (s0, R0) a).2 0 ++ (rfT (runO p (s0, R0) a).1 (4 + 2 * R0.length) ++ [(8 + 2 * R0.length, .cells (cPrg p) 27)]), 60⟩
section
attribute [local irreducible] TwS TwR thenT inBlockT retT nextW localW loadedW swapW Rg.push Rg.pop owW doO
variable {G : World → Prop}
set_option maxHeartbeats 20000000 in
theorem owensPlays (l : List (List Act)) (hl : ∀ r ∈ l, ∀ a ∈ r, inR a.n) (picks : List Int) : Pure prog Tabs 3 [cActs l, rwI picks] (tB true) := by
 obtain ⟨p, ho, hc, hn, c1, h3, hq, _⟩ := book_sc l hl
 have hth : (p.threads.map cTh).length = p.threads.length := lM ..
 have hq0 := beginO_ok hq
 obtain ⟨k1, k2, k3, _⟩ := check_syms hc
 have c2 := onew_own p ho hc (start_okS hc) rfl h3
 have c2' := beginT_own (G := Tabs) p k1 k2 k3
 rw [show startT p = (beginM p).1 from rfl] at c2'
 have c3 := aliveO_spec
 have c4 := picks_own (G := Tabs) picks (p.threads.map cTh).length 60 (by omega) (by decide)
 have hsl := picksF_len picks (p.threads.map cTh).length 60
 generalize picksF picks (p.threads.map cTh).length 60 = row at c4 hsl
 have hsm : (row.map cPick).length = row.length := lM ..
 have hR0 : (beginM p).2.length ≤ 3 := by show (List.replicate _ _).length ≤ 3; rw [List.length_replicate]; exact h3
 have hlk : (beginM p).1.lock = 0 := rfl
 generalize hqe : beginM p = q0 at *
 obtain ⟨s0, R0⟩ := q0
 simp only at c2'
 rcases rows3 hR0 with rfl | ⟨_, rfl⟩ | ⟨_, _, rfl⟩ | ⟨_, _, _, rfl⟩
 all_goals
  refine Pure.at mixedOk F3 rfl fun C hP hG hp => goF ?_; simp only [F3, targEnv, Nat.zero_add, Nat.reduceAdd]
  repeat' (first | refine goR rfl ?_ | refine goS rfl ?_ | refine tret1 rfl ?_ | refine tretN rfl ?_ | refine gY rfl rfl ?_ | refine gN rfl rfl ?_ | refine qT rfl rfl ?_ | refine qF rfl rfl ?_ | refine cA rfl (by rw [hP]; exact c1 _) rfl ?_ | refine tr_mcallX hP hG (c2) rfl rfl rfl rfl rfl rfl rfl rfl rfl rfl rfl rfl ?_ | refine tr_mcallX hP hG (c2') rfl rfl rfl rfl rfl rfl rfl rfl rfl rfl rfl rfl ?_ | refine tr_mcallX hP hG (c4) rfl rfl rfl rfl rfl rfl rfl rfl rfl rfl rfl rfl ?_ | fail)
  refine ts_weak (w_frzS 8 rfl rfl hsm.symm) ?_
  refine loopS (invPlaysO hq0 row) row.length (w_canon 60 [] [6, 7, 5, 8, 9] hp rfl rfl rfl rfl) ⟨[], row, rfl, rfl, rfl, by rw [show tI (0 : Int) = tI (runO p (s0, _) []).1.lock by exact congrArg tI hlk.symm]; rfl⟩ ?_
  rintro m1 env σ ⟨a, b, e, rfl, rfl, rfl⟩
  have hla : row.length = a.length + b.length := by rw [e, lA]
  have hqa := hq0.run hc hn a
  cases b with
  | nil =>
   rw [List.length_nil] at hla
   have hlt : decide ((a.length : Int) < ((row.map cPick).length : Int)) = false := dF (by omega)
   obtain ⟨s1, R1, hq1, hl1, hR1⟩ := hqa.split hq0 h3
   rw [hq1]
   rcases rows3 hR1 with rfl | ⟨_, rfl⟩ | ⟨_, _, rfl⟩ | ⟨_, _, _, rfl⟩
   all_goals first | (exfalso; simp at hl1; done) | skip
   all_goals
    repeat' (first | refine goR rfl ?_ | refine goS rfl ?_ | refine tret1 rfl ?_ | refine tretN rfl ?_ | refine gY rfl rfl ?_ | refine gN rfl rfl ?_ | refine qT rfl rfl ?_ | refine qF rfl rfl ?_ | refine qF rfl hlt ?_ | refine cA rfl (by rw [hP, hG]; exact c3) rfl ?_ | fail)
    exact .fr rfl
  | cons x b =>
   have hx : row[a.length]? = some x := by rw [e]; exact ix
   simp only [List.length_cons] at hla
   have hlt : decide ((a.length : Int) < ((row.map cPick).length : Int)) = true := dT (by omega)
   have hw1 : IntKind.i64.wrap ((a.length : Int) + 1) = ((a ++ [x]).length : Int) := by rw [w64 (by omega), lA]; rfl
   have hqa2 := hqa.step hc hn x
   have c5 := odo_own p ho hc _ hqa (by omega) h3 x.1 x.2
   have c6 := owR_own p ho hc _ hqa.st hqa.blen (by have := hqa.thr; omega) (fun l hl => ⟨by have := (hqa.few l hl).1; omega, (hqa.few l hl).2⟩) hqa.held x.1 x.2
   have c7 := ostate_own (G := Tabs) p _ hqa2 (by omega) (by have := hqa2.memLen hc; omega) h3
   have hok := hqa2.okS hc (by omega) (by omega)
   have c8 := sameSt_spec (G := Tabs) _ hok
   obtain ⟨s1, R1, hq1, hl1, hR1⟩ := hqa.split hq0 h3
   obtain ⟨s2, R2, hq2, hl2, hR2⟩ := hqa2.split hqa h3
   have hms : (owW p s1 x.1 x.2).1 = s2 := by
    have := congrArg Prod.fst hq2
    rw [hq1] at this
    exact this
   rw [show (x.1, x.2) = x from rfl, hq2] at c5
   rw [hq2] at c7 c8
   rw [hq1] at c5 c6 hl2
   simp only at c5 c6 c7 c8 hl2
   rw [hms] at c6
   rw [hq1]
   generalize (owW p s1 x.1 x.2).2 = b1 at c5 c6
   have hbb : (!(b1 == b1)) = false := by cases b1 <;> rfl
   rcases rows33 hR1 hl2 with ⟨rfl, rfl⟩ | ⟨_, _, rfl, rfl⟩ | ⟨_, _, _, _, rfl, rfl⟩ | ⟨_, _, _, _, _, _, rfl, rfl⟩
   all_goals first | (exfalso; simp at hl1; done) | skip
   all_goals
    repeat' (first | refine goR rfl ?_ | refine goS rfl ?_ | refine tret1 rfl ?_ | refine tretN rfl ?_ | refine gY rfl rfl ?_ | refine gN rfl rfl ?_ | refine qT rfl rfl ?_ | refine qF rfl rfl ?_ | refine qT rfl hlt ?_ | refine lT (tl_ixm rfl rfl rfl hx) ?_ | refine tr_mcallX hP hG (c5) rfl rfl rfl rfl rfl rfl rfl rfl rfl rfl rfl rfl ?_ | refine tr_mcallX hP hG (c6) rfl rfl rfl rfl rfl rfl rfl rfl rfl rfl rfl rfl ?_ | (refine lT (tl_neb (by rw [hP]; exact ut_bool) rfl rfl) ?_; rw [hbb]) | refine tr_mcallX hP hG (c7) rfl rfl rfl rfl rfl rfl rfl rfl rfl rfl rfl rfl ?_ | refine tr_callV hP hG (c8) rfl (by (repeat' first | exact FzL.nil | refine FzL.cons ?_ ?_ | exact Fz.fr rfl | exact Fz.nil _ | exact Fz.s _ _ _ _ _ _ rfl (lM ..).symm | exact Fz.s _ _ _ _ _ _ rfl rfl | refine Fz.pL rfl ?_ | refine Fz.aggL ?_); first | done | fail) rfl ?_ | fail)
    refine again (m' := b.length) (Nat.lt_succ_self _) (w_canon 60 [] [6, 7, 5, 8, 9] hp rfl rfl rfl rfl) ⟨a ++ [x], b, by rw [e]; simp, rfl, by rw [hw1]; rfl, by rw [runO_snoc, hq2]; rfl⟩
end
end Go.Proofs.YtjaipefmifbghaaGreatDoor
