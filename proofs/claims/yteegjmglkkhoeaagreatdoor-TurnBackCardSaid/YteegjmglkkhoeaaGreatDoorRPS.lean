/-
  Walks of functions of the program, and what the laws need of them.
-/
import Derived.Test.YteegjmglkkhoeaaGreatDoorRPO
import Derived.Test.YteegjmglkkhoeaaGreatDoorRPQ
set_option linter.all false
set_option linter.unusedSimpArgs false
set_option linter.unusedVariables false
set_option linter.unnecessarySimpa false
namespace Go.Proofs.YteegjmglkkhoeaaGreatDoor
set_option maxRecDepth 20000
open Go Go.Proofs.YteegjmglkkhoeaaGreatDoor.V Go.Proofs
theorem doneL_snoc (p : Prg) : ∀ (a : List Pk) (s : State) (x : Pk), doneL p s (a ++ [x]) = doneL p s a ++ (if (tsoW p (sA p s a) x.1 x.2).2 = true then [x] else [])
 | [], s, x => by
  show (if _ then [x] else []) ++ doneL p _ [] = doneL p s [] ++ _
  show (if _ then [x] else []) ++ [] = [] ++ _
  rw [List.append_nil, List.nil_append]; rfl
 | y :: a, s, x => by
  show (if _ then [y] else []) ++ doneL p _ (a ++ [x]) = ((if _ then [y] else []) ++ doneL p _ a) ++ _
  rw [doneL_snoc p a _ x, List.append_assoc]; rfl
theorem doneL_len (p : Prg) : ∀ (a : List Pk) (s : State), (doneL p s a).length ≤ a.length
 | [], _ => Nat.le_refl _
 | y :: a, s => by
  have := doneL_len p a (tsoW p s y.1 y.2).1
  show ((if _ then [y] else []) ++ doneL p _ a).length ≤ _
  rw [lA, List.length_cons]
  split <;> simp only [List.length_cons, List.length_nil] <;> omega
def invB (p : Prg) (s0 : State) (l : List Pk) (m : Nat) (env : TEnv) (σ : TS) : Prop :=
 ∃ a b, l = a ++ b ∧ m = b.length ∧ env = [(5, .p 0 0), (6, .lst 2 (l.map cPick)), (7, .p 1 0), (8, .s 5 2 0 (doneL p s0 a).length true), (9, tI a.length)] ∧
  σ = ⟨(0, .cells (cPrg p) 27) :: (rfT (sA p s0 a) 1 ++ [(5, .rows 2 ((doneL p s0 a).map cPick) 48)]), 60⟩
section
attribute [local irreducible] TwS TwR thenT inBlockT retT nextW localW loadedW swapW Rg.push Rg.pop owW doO tsoW doR expL colL sO sA runO runT cntO cntT doneL
set_option maxHeartbeats 20000000 in
theorem turnBack (l : List (List Act)) (hl : ∀ r ∈ l, ∀ a ∈ r, inR a.n) (picks : List Int) : Pure prog Tabs 4 [cActs l, rwI picks] (tB true) := by
 obtain ⟨p, ho, hc, hn, c1, h3, hq, _⟩ := book_sc l hl
 have hth : (p.threads.map cTh).length = p.threads.length := lM ..
 have c4 := picks_own (G := Tabs) picks (p.threads.map cTh).length 50 (by omega) (by decide)
 have hsl := picksF_len picks (p.threads.map cTh).length 50
 generalize picksF picks (p.threads.map cTh).length 50 = row at c4 hsl
 have hsm : (row.map cPick).length = row.length := lM ..
 have hq0 := beginM_ok hq
 obtain ⟨x1, x2, x3⟩ := exp_all row (start_aS p)
 have hel := expL_len p row (startT p)
 have hlock : (sO p (startT p) (expL p (startT p) row)).lock = 0 := by
  rw [x2]
  have := (hq0.run hc hn row).lock
  rwa [runT_s p row (beginM p)] at this
 have c8 := expand_spec p ho hc hn hq h3 row (by omega)
 have c7 := collapse_t p ho hc hn hq h3 (expL p (startT p) row) (by omega) hlock
 rw [x3] at c7
 have hdl := doneL_len p row (startT p)
 have c10 := samePicks_spec (G := Tabs) (doneL p (startT p) row) (by omega)
 have c13 := aliveT_spec
 obtain ⟨k1, k2, k3, _⟩ := check_syms hc
 have c2 := beginT_own (G := Tabs) p k1 k2 k3
 have hsA0 : ∀ a, (runT p (beginM p) a).1 = sA p (startT p) a := fun a => runT_s p a (beginM p)
 have hlk : (startT p).lock = 0 := rfl
 have hs00 := sA_nil p (startT p)
 have hd0 : doneL p (startT p) [] = [] := by unfold doneL; rfl
 clear x1 x2 x3 hlock
 generalize expL p (startT p) row = ke at *
 generalize startT p = s0 at *
 have hdm : ((doneL p s0 row).map cPick).length = (doneL p s0 row).length := lM ..
 refine Pure.at mixedOk F4 rfl fun C hP hG hp => goF ?_; simp only [F4, targEnv, Nat.zero_add, Nat.reduceAdd]
 repeat' (first | refine goR rfl ?_ | refine goS rfl ?_ | refine tret1 rfl ?_ | refine tretN rfl ?_ | refine gY rfl rfl ?_ | refine gN rfl rfl ?_ | refine qT rfl rfl ?_ | refine qF rfl rfl ?_ | refine cA rfl (by rw [hP]; exact c1 _) rfl ?_ | (refine tr_mcallX hP hG (c4) rfl rfl rfl rfl rfl rfl rfl rfl rfl rfl rfl rfl ?_; refine tr_frzS 18 rfl rfl hsm.symm ?_) | refine tr_mcallX hP hG (c2) rfl rfl rfl rfl rfl rfl rfl rfl rfl rfl rfl rfl ?_ | fail)
 refine loopS (invB p s0 row) row.length ((w_virt (d := 8) 2 48 rfl).trans (w_canon 60 [] [5, 6, 7, 8, 9] hp rfl rfl rfl rfl)) ⟨[], row, rfl, rfl, by rw [hd0]; rfl, by rw [hd0, hs00]; show _ = (⟨_ :: ((1, .cells [_, _, _, tI s0.lock] _) :: _), 60⟩ : TS); rw [hlk]; rfl⟩ ?_
 rintro m1 env σ ⟨a, b, e, rfl, rfl, rfl⟩
 have hla : row.length = a.length + b.length := by rw [e, lA]
 cases b with
 | nil =>
  rw [List.length_nil] at hla
  rw [List.append_nil] at e
  subst e
  repeat' (first | refine goR rfl ?_ | refine goS rfl ?_ | refine tret1 rfl ?_ | refine tretN rfl ?_ | refine gY rfl rfl ?_ | refine gN rfl rfl ?_ | refine qT rfl rfl ?_ | refine qF rfl rfl ?_ | refine qF rfl (dF (by omega)) ?_ | refine cA rfl (by rw [hP, hG]; exact c8) rfl ?_ | refine cA rfl (by rw [hP, hG]; exact c7) rfl ?_ | refine tr_callV hP hG (c10) rfl (by (repeat' first | exact FzL.nil | refine FzL.cons ?_ ?_ | exact Fz.fr rfl | exact Fz.nil _ | exact Fz.s _ _ _ _ _ _ rfl (lM ..).symm | exact Fz.s _ _ _ _ _ _ rfl rfl | refine Fz.pL rfl ?_ | refine Fz.aggL ?_); first | done | fail) rfl ?_ | refine cA rfl (by rw [hP, hG]; exact c13) rfl ?_ | fail)
  exact .fr rfl
 | cons x b =>
  have hx : row[a.length]? = some x := by rw [e]; exact ix
  simp only [List.length_cons] at hla
  have hlt : decide ((a.length : Int) < ((row.map cPick).length : Int)) = true := dT (by omega)
  have hw1 : IntKind.i64.wrap ((a.length : Int) + 1) = ((a ++ [x]).length : Int) := by rw [w64 (by omega), lA]; rfl
  have hes := doneL_snoc p a s0 x
  have hel := doneL_len p a s0
  have hss := sA_snoc p s0 a x
  have hqa := hq0.run hc hn a
  have hst := hqa.st
  have hbl := hqa.blen
  have hth := hqa.thr
  have hfw := hqa.few
  rw [hsA0 a] at hst hbl hth hfw
  generalize sA p s0 a = s1 at *
  have cT := tsoR_own p ho hc s1 hst hbl (by omega) (fun l hl => ⟨by have := (hfw l hl).1; omega, (hfw l hl).2⟩) x.1 x.2
  obtain ⟨es, hee⟩ : ∃ es, doneL p s0 a = es := ⟨_, rfl⟩
  rw [hee] at hes hel
  rw [hee]
  clear hee
  obtain ⟨t, f⟩ := x
  simp only at cT hss hes
  cases hd : (tsoW p s1 t f).2
  all_goals
   rw [hd] at cT hes
   simp only [if_true, if_false, Bool.false_eq_true, List.append_nil] at hes
   repeat' (first | refine goR rfl ?_ | refine goS rfl ?_ | refine tret1 rfl ?_ | refine tretN rfl ?_ | refine gY rfl rfl ?_ | refine gN rfl rfl ?_ | refine qT rfl rfl ?_ | refine qF rfl rfl ?_ | refine qT rfl hlt ?_ | refine lT (tl_ixm rfl rfl rfl hx) ?_ | refine tr_mcallX hP hG (cT) rfl rfl rfl rfl rfl rfl rfl rfl rfl rfl rfl rfl ?_ | refine tr_append rfl rfl (by rw [lM]) (.inr (.inr ⟨_, _, _, _, rfl, rfl, rfl⟩)) (by simp only [List.length_cons, List.length_nil]; omega) rfl ?_ | fail)
   refine again (m' := b.length) (Nat.lt_succ_self _) (w_canon 60 [] [5, 6, 7, 8, 9] hp rfl rfl rfl rfl) ⟨a ++ [(t, f)], b, by rw [e]; simp, rfl, ?_, ?_⟩
   ·first | (rw [hw1, hes]; done) | (rw [hw1, hes]; rfl) | (rw [hw1, hes, @lA _ es]; done) | (rw [hw1, hes, @lA _ es]; rfl)
   ·first | (rw [hss, hes]; done) | (rw [hss, hes]; rfl) | (rw [hss, hes, List.map_append]; done) | (rw [hss, hes, List.map_append]; rfl)
end
end Go.Proofs.YteegjmglkkhoeaaGreatDoor
