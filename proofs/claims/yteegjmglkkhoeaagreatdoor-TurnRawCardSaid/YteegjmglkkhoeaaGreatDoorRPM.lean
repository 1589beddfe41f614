/-
  Walks of functions of the program, and what the laws need of them.
-/
import Derived.Test.YteegjmglkkhoeaaGreatDoorRPL
import Derived.Test.YteegjmglkkhoeaaGreatDoorRPK
set_option linter.all false
set_option linter.unusedSimpArgs false
set_option linter.unusedVariables false
set_option linter.unnecessarySimpa false
namespace Go.Proofs.YteegjmglkkhoeaaGreatDoor
set_option maxRecDepth 20000
open Go Go.Proofs.YteegjmglkkhoeaaGreatDoor.V Go.Proofs
def invE {p : Prg} {m0 : Nat} {s0 : State} {R0 : List Rg} (_ : mQ p m0 (s0, R0)) (l : List Pk) (m : Nat) (env : TEnv) (σ : TS) : Prop :=
 ∃ a b, l = a ++ b ∧ m = b.length ∧ env = [(5, .fp (cCore p) 0), (6, .p 0 0), (7, .s (4 + 2 * R0.length) 2 0 (expL p s0 a).length true), (21, .lst 2 (l.map cPick)), (22, tI (l.map cPick).length), (23, tI a.length)] ∧
  σ = ⟨tsM p (runT p (s0, R0) a).1 (runT p (s0, R0) a).2 0 ++ [(4 + 2 * R0.length, .rows 2 ((expL p s0 a).map cPick) 48)], 60⟩
section
attribute [local irreducible] TwS TwR thenT inBlockT retT nextW localW loadedW swapW Rg.push Rg.pop tsoW doR expL expS stepB flushW
set_option maxHeartbeats 20000000 in
theorem expand_spec (p : Prg) (ho : okP p) (hc : checkC p = 0) (hn : numsOk p) (hq : stQ p (start0 p)) (h3 : p.threads.length ≤ 3) (l : List Pk) (hl : l.length ≤ 100000) :
  Pure prog Tabs 11 [.agg (cPrg p), .lst 2 (l.map cPick)] (.lst 2 ((expL p (startT p) l).map cPick)) := by
 have hml : (l.map cPick).length = l.length := lM ..
 have hq0 := beginM_ok hq
 have c0 := make_spec p ho hc
 have c1 := tnew_own p ho hc (start_okS hc) rfl h3
 have hR0 : (beginM p).2.length ≤ 3 := by show (List.replicate _ _).length ≤ 3; rw [List.length_replicate]; exact h3
 have hs0 : startT p = (beginM p).1 := rfl
 rw [hs0]
 clear hs0
 generalize hqe : beginM p = q0 at *
 obtain ⟨s0, R0⟩ := q0
 simp only at c1 hR0 ⊢
 have hsA0 : ∀ a, sA p s0 a = (runT p (s0, R0) a).1 := fun a => (runT_s p a (s0, R0)).symm
 have hrs0 := runT_snoc p (s0, R0)
 rcases rows3 hR0 with rfl | ⟨_, rfl⟩ | ⟨_, _, rfl⟩ | ⟨_, _, _, rfl⟩
 all_goals
  refine Pure.at mixedOk F11 rfl fun C hP hG hp => goF ?_; simp only [F11, targEnv, Nat.zero_add, Nat.reduceAdd]
  repeat' (first | refine goR rfl ?_ | refine goS rfl ?_ | refine tret1 rfl ?_ | refine tretN rfl ?_ | refine gY rfl rfl ?_ | refine gN rfl rfl ?_ | refine qT rfl rfl ?_ | refine qF rfl rfl ?_ | refine cA rfl (by rw [hP, hG]; exact c0) rfl ?_ | refine tr_mcallX hP hG (c1) rfl rfl rfl rfl rfl rfl rfl rfl rfl rfl rfl rfl ?_ | fail)
  refine loopS (invE hq0 l) l.length ((w_virt (d := 7) 2 48 rfl).trans (w_canon 60 [] [5, 6, 7, 21, 22, 23] hp rfl rfl rfl rfl)) ⟨[], l, rfl, rfl, by rw [expL_nil]; rfl, by rw [expL_nil]; rfl⟩ ?_
  rintro m1 env σ ⟨a, b, e, rfl, rfl, rfl⟩
  have hla : l.length = a.length + b.length := by rw [e, lA]
  have hqa := hq0.run hc hn a
  cases b with
  | nil =>
   rw [List.length_nil] at hla
   rw [List.append_nil] at e
   subst e
   have hlt : decide ((l.length : Int) < ((l.map cPick).length : Int)) = false := dF (by omega)
   obtain ⟨s1, R1, hq1, hl1, hR1⟩ := hqa.split hq0 h3
   rw [hq1]
   rcases rows3 hR1 with rfl | ⟨_, rfl⟩ | ⟨_, _, rfl⟩ | ⟨_, _, _, rfl⟩
   all_goals first | (exfalso; simp at hl1; done) | skip
   all_goals
    repeat' (first | refine goR rfl ?_ | refine goS rfl ?_ | refine tret1 rfl ?_ | refine tretN rfl ?_ | refine gY rfl rfl ?_ | refine gN rfl rfl ?_ | refine qT rfl rfl ?_ | refine qF rfl rfl ?_ | refine qF rfl hlt ?_ | fail)
    show Fz _ _ (.lst 2 ((expL p s0 l).map cPick))
    (repeat' first | exact FzL.nil | refine FzL.cons ?_ ?_ | exact Fz.fr rfl | exact Fz.nil _ | exact Fz.s _ _ _ _ _ _ rfl (lM ..).symm | exact Fz.s _ _ _ _ _ _ rfl rfl | refine Fz.pL rfl ?_ | refine Fz.aggL ?_); first | done | fail
  | cons x b =>
   have hx : l[a.length]? = some x := by rw [e]; exact ix
   simp only [List.length_cons] at hla
   have hlt : decide ((a.length : Int) < ((l.map cPick).length : Int)) = true := dT (by omega)
   have hw1 : IntKind.i64.wrap ((a.length : Int) + 1) = ((a ++ [x]).length : Int) := by rw [w64 (by omega), lA]; rfl
   have hes := expL_snoc p a s0 x
   have hel := expL_len p a s0
   have hqa2 := hqa.step hc hn x
   have cdo := tdo_own p ho hc _ hqa (by omega) h3 x.1 x.2
   have cst := tstate_own (G := Tabs) p _ hqa (by omega) (by have := hqa.memLen hc; omega) h3
   have hst := hqa.st
   have hth := hqa.thr
   have hsA := hsA0 a
   have hrs := hrs0 a x
   obtain ⟨s1, R1, hq1, hl1, hR1⟩ := hqa.split hq0 h3
   obtain ⟨s2, R2, hq2, hl2, hR2⟩ := hqa2.split hqa h3
   rw [show (x.1, x.2) = x from rfl, hq2] at cdo
   rw [hq2] at hrs
   rw [hq1] at cdo cst hl2 hst hth hsA
   rw [hsA] at hes
   simp only at cdo cst hl2 hst hth
   rw [hq1]
   clear hsA hqa hqa2 hq1 hq2
   obtain ⟨es, hee⟩ : ∃ es, expL p s0 a = es := ⟨_, rfl⟩
   rw [hee] at hes hel
   rw [hee]
   clear hee
   obtain ⟨t, f⟩ := x
   simp only at cdo
   by_cases ht : 0 ≤ t ∧ t < (s1.thr.length : Int)
   ·obtain ⟨k, rfl⟩ : ∃ k : Nat, t = k := ⟨t.toNat, by omega⟩
    have hkl : k < s1.thr.length := by omega
    have hy : s1.thr[k]? = some s1.thr[k] := List.getElem?_eq_getElem hkl
    generalize s1.thr[k] = y at hy
    have hyt : (s1.thr.map cThr)[k]? = some (cThr y) := by rw [List.getElem?_map, hy]; rfl
    have hyq := (hst.thr y (List.mem_of_getElem? hy)).r
    have g1 : decide ((k : Int) ≥ 0) = true := dT (by omega)
    have g2 : decide ((k : Int) < (s1.thr.length : Int)) = true := dT (by omega)
    cases f with
    | true =>
     cases hd : (tsoW p s1 (k : Int) true).2
     all_goals
      rw [hd] at cdo
      first | rw [expS_f hy hd] at hes | rw [expS_no hd, List.append_nil] at hes
      clear hd
      rcases rows33 hR1 hl2 with ⟨rfl, rfl⟩ | ⟨_, _, rfl, rfl⟩ | ⟨_, _, _, _, rfl, rfl⟩ | ⟨_, _, _, _, _, _, rfl, rfl⟩
     all_goals first | (exfalso; simp at hl1; done) | skip
     all_goals
      repeat' (first | refine goR rfl ?_ | refine goS rfl ?_ | refine tret1 rfl ?_ | refine tretN rfl ?_ | refine gY rfl rfl ?_ | refine gN rfl rfl ?_ | refine qT rfl rfl ?_ | refine qF rfl rfl ?_ | refine qT rfl hlt ?_ | refine lT (tl_ixm rfl rfl rfl hx) ?_ | refine tr_mcallX hP hG (cst) rfl rfl rfl rfl rfl rfl rfl rfl rfl rfl rfl rfl ?_ | refine tr_mcallX hP hG (cdo) rfl rfl rfl rfl rfl rfl rfl rfl rfl rfl rfl rfl ?_ | refine tr_append rfl rfl (by rw [lM]) (.inr (.inr ⟨_, _, _, _, rfl, rfl, rfl⟩)) (by simp only [List.length_cons, List.length_nil]; omega) rfl ?_ | fail)
      refine again (m' := b.length) (Nat.lt_succ_self _) (w_canon 60 [] [5, 6, 7, 21, 22, 23] hp rfl rfl rfl rfl) ⟨a ++ [((k : Int), true)], b, by rw [e]; simp, rfl, ?_, ?_⟩
      ·first | (rw [hw1, hes]; rfl) | (rw [hw1, hes, @lA _ es]; rfl)
      ·first | (rw [hrs, hes]; rfl) | (rw [hrs, hes, List.map_append]; rfl)
    | false =>
     have cn := next_spec p ho hc k y hyq
     by_cases h4 : (nextW p k y).kind = 4
     ·have csw := swap_spec p ho hc k y hyq (rdM s1 (nextW p k y).addr)
      obtain ⟨h1, h2⟩ := next_addr hc (t := k) (x := y) (.inr (.inr h4))
      rw [← hst.len] at h2
      have hek := expS_k (p := p) hy h4
      generalize nextW p k y = d at *
      obtain ⟨dk, da, dv⟩ := d
      simp only at h4 h1 h2 csw hek
      subst h4
      obtain ⟨ad, rfl⟩ : ∃ ad : Nat, da = ad := ⟨da.toNat, (Int.toNat_of_nonneg h1).symm⟩
      have hal : ad < s1.mem.length := by omega
      have hag : (s1.mem.map fun n => [tI n])[ad]? = some [tI (rdM s1 ad)] := by
       rw [List.getElem?_map, rdM, Int.toNat_natCast, List.getD_eq_getElem?_getD, List.getElem?_eq_getElem hal]; rfl
      generalize swapW p k y (rdM s1 ad) = w at *
      obtain ⟨y2, v2, b2⟩ := w
      simp only at csw hek
      cases b2
      all_goals
       cases hd : (tsoW p s1 (k : Int) false).2
       all_goals
        rw [hd] at cdo
        first | (rw [hek hd] at hes; simp only [if_true, if_false, Bool.false_eq_true] at hes) | rw [expS_no hd, List.append_nil] at hes
        clear hd hek
        rcases rows33 hR1 hl2 with ⟨rfl, rfl⟩ | ⟨_, _, rfl, rfl⟩ | ⟨_, _, _, _, rfl, rfl⟩ | ⟨_, _, _, _, _, _, rfl, rfl⟩
      all_goals first | (exfalso; simp at hl1; done) | skip
      all_goals
       repeat' (first | refine goR rfl ?_ | refine goS rfl ?_ | refine tret1 rfl ?_ | refine tretN rfl ?_ | refine gY rfl rfl ?_ | refine gN rfl rfl ?_ | refine qT rfl rfl ?_ | refine qF rfl rfl ?_ | refine qT rfl hlt ?_ | refine lT (tl_ixm rfl rfl rfl hx) ?_ | refine tr_mcallX hP hG (cst) rfl rfl rfl rfl rfl rfl rfl rfl rfl rfl rfl rfl ?_ | refine tr_mcallX hP hG (cdo) rfl rfl rfl rfl rfl rfl rfl rfl rfl rfl rfl rfl ?_ | refine gY rfl g1 ?_ | refine gY rfl g2 ?_ | refine qT rfl g2 ?_ | refine lT (tl_ixo rfl rfl rfl hkl) ?_ | refine lT (tl_ldE rfl rfl hyt rfl) ?_ | refine cA rfl (by rw [hP, hG]; exact cn) rfl ?_ | refine lT (tl_ixo (m := ad) rfl rfl rfl hal) ?_ | refine lT (tl_ldE rfl rfl hag rfl) ?_ | refine cA rfl (by rw [hP, hG]; exact csw) rfl ?_ | refine tr_append rfl rfl (by rw [lM]) (.inr (.inr ⟨_, _, _, _, rfl, rfl, rfl⟩)) (by simp only [List.length_cons, List.length_nil]; omega) rfl ?_ | fail)
       refine again (m' := b.length) (Nat.lt_succ_self _) (w_canon 60 [] [5, 6, 7, 21, 22, 23] hp rfl rfl rfl rfl) ⟨a ++ [((k : Int), false)], b, by rw [e]; simp, rfl, ?_, ?_⟩
       ·first | (rw [hw1, hes]; rfl) | (rw [hw1, hes, @lA _ es]; rfl)
       ·first | (rw [hrs, hes]; rfl) | (rw [hrs, hes, List.map_append]; rfl)
     ·have hek := expS_p (p := p) hy h4
      generalize nextW p k y = d at *
      obtain ⟨dk, da, dv⟩ := d
      simp only at h4
      have g4 : decide (dk = 4) = false := dF h4
      cases hd : (tsoW p s1 (k : Int) false).2
      all_goals
       rw [hd] at cdo
       first | rw [hek hd] at hes | rw [expS_no hd, List.append_nil] at hes
       clear hd hek
       rcases rows33 hR1 hl2 with ⟨rfl, rfl⟩ | ⟨_, _, rfl, rfl⟩ | ⟨_, _, _, _, rfl, rfl⟩ | ⟨_, _, _, _, _, _, rfl, rfl⟩
      all_goals first | (exfalso; simp at hl1; done) | skip
      all_goals
       repeat' (first | refine goR rfl ?_ | refine goS rfl ?_ | refine tret1 rfl ?_ | refine tretN rfl ?_ | refine gY rfl rfl ?_ | refine gN rfl rfl ?_ | refine qT rfl rfl ?_ | refine qF rfl rfl ?_ | refine qT rfl hlt ?_ | refine lT (tl_ixm rfl rfl rfl hx) ?_ | refine tr_mcallX hP hG (cst) rfl rfl rfl rfl rfl rfl rfl rfl rfl rfl rfl rfl ?_ | refine tr_mcallX hP hG (cdo) rfl rfl rfl rfl rfl rfl rfl rfl rfl rfl rfl rfl ?_ | refine gY rfl g1 ?_ | refine gY rfl g2 ?_ | refine qT rfl g2 ?_ | refine qF rfl g4 ?_ | refine lT (tl_ixo rfl rfl rfl hkl) ?_ | refine lT (tl_ldE rfl rfl hyt rfl) ?_ | refine cA rfl (by rw [hP, hG]; exact cn) rfl ?_ | refine tr_append rfl rfl (by rw [lM]) (.inr (.inr ⟨_, _, _, _, rfl, rfl, rfl⟩)) (by simp only [List.length_cons, List.length_nil]; omega) rfl ?_ | fail)
       refine again (m' := b.length) (Nat.lt_succ_self _) (w_canon 60 [] [5, 6, 7, 21, 22, 23] hp rfl rfl rfl rfl) ⟨a ++ [((k : Int), false)], b, by rw [e]; simp, rfl, ?_, ?_⟩
       ·first | (rw [hw1, hes]; rfl) | (rw [hw1, hes, @lA _ es]; rfl)
       ·first | (rw [hrs, hes]; rfl) | (rw [hrs, hes, List.map_append]; rfl)
   ·have hd : (tsoW p s1 t f).2 = false := by rw [tsoW_out ht]
    rw [hd] at cdo
    rw [expS_no hd, List.append_nil] at hes
    clear hd
    cases f
    all_goals
     rcases rows33 hR1 hl2 with ⟨rfl, rfl⟩ | ⟨_, _, rfl, rfl⟩ | ⟨_, _, _, _, rfl, rfl⟩ | ⟨_, _, _, _, _, _, rfl, rfl⟩
    all_goals first | (exfalso; simp at hl1; done) | skip
    all_goals
     repeat' (first | refine goR rfl ?_ | refine goS rfl ?_ | refine tret1 rfl ?_ | refine tretN rfl ?_ | refine gY rfl rfl ?_ | refine gN rfl rfl ?_ | refine qT rfl rfl ?_ | refine qF rfl rfl ?_ | refine qT rfl hlt ?_ | refine lT (tl_ixm rfl rfl rfl hx) ?_ | refine tr_mcallX hP hG (cst) rfl rfl rfl rfl rfl rfl rfl rfl rfl rfl rfl rfl ?_ | refine tr_mcallX hP hG (cdo) rfl rfl rfl rfl rfl rfl rfl rfl rfl rfl rfl rfl ?_ | ((first | refine gS rfl (fun h => ?_) (fun h => ?_) | refine ts_cond rfl (fun h => ?_) (fun h => ?_)) <;> (try simp only [bs0, beq_iff_eq] at h) <;> try (exfalso; omega; done)) | fail)
     all_goals
      refine again (m' := b.length) (Nat.lt_succ_self _) (w_canon 60 [] [5, 6, 7, 21, 22, 23] hp rfl rfl rfl rfl) ⟨a ++ [(t, _)], b, e.trans (List.append_cons ..), rfl, ?_, ?_⟩
      ·first | (rw [hw1, hes]; rfl) | (rw [hw1, hes, @lA _ es]; rfl)
      ·first | (rw [hrs, hes]; rfl) | (rw [hrs, hes, List.map_append]; rfl)
end
end Go.Proofs.YteegjmglkkhoeaaGreatDoor
