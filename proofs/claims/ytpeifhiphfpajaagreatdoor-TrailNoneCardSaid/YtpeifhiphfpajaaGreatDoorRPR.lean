/-
  Walks of functions of the program, and what the laws need of them.
-/
import Derived.Test.YtpeifhiphfpajaaGreatDoorRPM
import Derived.Test.YtpeifhiphfpajaaGreatDoorRPK
import Derived.Test.YtpeifhiphfpajaaGreatDoorRPE
import Derived.Test.YtpeifhiphfpajaaGreatDoorRPQ
import Derived.Test.YtpeifhiphfpajaaGreatDoorRPG
set_option linter.all false
set_option linter.unusedSimpArgs false
set_option linter.unusedVariables false
set_option linter.unnecessarySimpa false
namespace Go.Proofs.YtpeifhiphfpajaaGreatDoor
set_option maxRecDepth 20000
open Go Go.Proofs.YtpeifhiphfpajaaGreatDoor.V Go.Proofs
theorem len2 {α : Type} {l : List α} (h : l.length = 2) : ∃ a b, l = [a, b] := by
 match l, h with
 | [a, b], _ => exact ⟨a, b, rfl⟩
theorem len3 {α : Type} {l : List α} (h : l.length = 3) : ∃ a b c, l = [a, b, c] := by
 match l, h with
 | [a, b, c], _ => exact ⟨a, b, c, rfl⟩
def dmA (p : Prg) (c : Tr × List Rg × List WQ) : Nat → Tr × List Rg × List WQ
 | 0 => c
 | i + 1 => tmL p (dmA p c i) (List.replicate ((dmA p c i).1.W.getD i []).length ((i : Int), true))
theorem dmA_succ (p : Prg) (c : Tr × List Rg × List WQ) (i : Nat) : dmA p c (i + 1) = tmL p (dmA p c i) (List.replicate ((dmA p c i).1.W.getD i []).length ((i : Int), true)) := rfl
theorem dmA_r (p : Prg) (c : Tr × List Rg × List WQ) : ∀ i, (dmA p c i).1 = drRA p c.1 i
 | 0 => rfl
 | i + 1 => by
  show (tmL p (dmA p c i) _).1 = drR p (drRA p c.1 i) i
  rw [tmL_r, dmA_r p c i]; rfl
section
variable {p : Prg} {c : Tr × List Rg × List WQ} {m : Nat}
theorem trV.lens (h : trV p c m) : c.2.2.length = p.threads.length ∧ c.2.1.length = p.threads.length := by
 have h1 := h.w.1
 have h2 := h.q.wl
 have h3 := h.q.th
 have h4 := h.mq.rg.len
 have h5 := h.mq.thr
 simp only at h4 h5
 omega
theorem trV.wlen (h : trV p c m) (k : Nat) : (c.1.W.getD k []).length ≤ m := by
 have h1 : (bufAt c.1.s k).length ≤ m := h.mq.bufAt k
 have := congrArg List.length (h.q.bw k)
 rw [lM, lM] at this
 omega
theorem trV.mono (h : trV p c m) {m' : Nat} (hm : m ≤ m') : trV p c m' := ⟨h.ok, h.ck, h.nm, h.mq.mono hm, h.th, h.q, h.pp, h.w, by have := h.es; omega, by have := h.n; omega⟩
theorem trV.dmA (h : trV p c m) : ∀ i, trV p (dmA p c i) (2 ^ i * m)
 | 0 => by rw [Nat.pow_zero, Nat.one_mul]; exact h
 | i + 1 => by
  have ih := h.dmA i
  have h1 := ih.wlen i
  have h2 := ih.run (List.replicate (((Go.Proofs.YtpeifhiphfpajaaGreatDoor.dmA p c i).1.W.getD i []).length) ((i : Int), true))
  rw [List.length_replicate] at h2
  exact h2.mono (by rw [Nat.pow_succ, Nat.mul_assoc, Nat.mul_comm 2 m, ← Nat.mul_assoc]; omega)
end
def invO1 {p : Prg} {c : Tr × List Rg × List WQ} {m0 : Nat} (_ : trV p c m0) (l : List Pk) (m : Nat) (env : TEnv) (σ : TS) : Prop :=
 ∃ a b, l = a ++ b ∧ m = b.length ∧ env = [(5, .p 0 0), (28, .lst 2 (l.map cPick)), (29, tI (l.map cPick).length), (30, tI a.length)] ∧ σ = ⟨trC p (tmL p c a).1 (tmL p c a).2.1 (tmL p c a).2.2, 60⟩
def invO2 {p : Prg} {c : Tr × List Rg × List WQ} {m0 : Nat} (_ : trV p c m0) (n : Nat) (m : Nat) (env : TEnv) (σ : TS) : Prop :=
 ∃ i, i ≤ n ∧ m = n - i ∧ env = [(5, .p 0 0), (42, tI n), (43, tI i)] ∧ σ = ⟨trC p (dmA p c i).1 (dmA p c i).2.1 (dmA p c i).2.2, 60⟩
def invO3 {p : Prg} {c : Tr × List Rg × List WQ} {m0 : Nat} (_ : trV p c m0) (n i L : Nat) (m : Nat) (env : TEnv) (σ : TS) : Prop :=
 ∃ j, j ≤ L ∧ m = L - j ∧ env = [(5, .p 0 0), (8, tI i), (42, tI n), (43, tI i)] ∧ σ = ⟨trC p (tmL p c (List.replicate j ((i : Int), true))).1 (tmL p c (List.replicate j ((i : Int), true))).2.1 (tmL p c (List.replicate j ((i : Int), true))).2.2, 60⟩
theorem trV.left {p : Prg} {c : Tr × List Rg × List WQ} {m : Nat} (h : trV p c m) {i : Nat} (hi : i < p.threads.length) (j : Nat) {q : WQ} (hq : (tmL p c (List.replicate j ((i : Int), true))).2.2[i]? = some q) : q.n = (c.1.W.getD i []).length - j := by
 have h1 := (h.run (List.replicate j ((i : Int), true))).w.2 i q hq
 have h2 := (flushR h.ck i j h.q h.pp (by have := h.q.th; omega)).2.1 i
 rw [tmL_r] at h1
 rw [if_pos rfl] at h2
 rw [h2] at h1
 rw [h1.1, List.length_drop]
section
attribute [local irreducible] TwS TwR thenT inBlockT retT nextW localW loadedW swapW Rg.push Rg.pop tsoW doR trS doQ
set_option maxHeartbeats 20000000 in
theorem trailOf_spec (p : Prg) (ho : okP p) (hc : checkC p = 0) (hn : numsOk p) (hq : stQ p (start0 p)) (h3 : p.threads.length ≤ 3) (l : List Pk) (hl : l.length ≤ 100) (hdo : ∀ {c : Tr × List Rg × List WQ} {m : Nat} (_ : trV p c m) (_ : m ≤ 1000) (x : Pk),
  TC prog Tabs 23 [.p 0 0, .agg [tI x.1, tB x.2]] ⟨trC p c.1 c.2.1 c.2.2, 60⟩ [0] (fun v σ' => v = .tup [] ∧ σ' = ⟨trC p (tmW p c x).1 (tmW p c x).2.1 (tmW p c x).2.2, 60⟩)) :
  Pure prog Tabs 9 [.agg (cPrg p), .lst 2 (l.map cPick)] (.lst 6 ((trailR p l).es.map cEv)) := by
 have c1 := make_spec p ho hc
 have c2 := tnew_own p ho hc (start_okS hc) rfl h3
 have hml : (l.map cPick).length = l.length := lM ..
 have hB := tmB_ok ho hc hn hq h3
 obtain ⟨sy, th⟩ := p
 have h3' : th.length ≤ 3 := h3
 rcases rows3 h3' with rfl | ⟨t0, rfl⟩ | ⟨t0, t1, rfl⟩ | ⟨t0, t1, t2, rfl⟩
 ·refine Pure.at mixedOk F9 rfl fun C hP hG hp => goF ?_; simp only [F9, targEnv, Nat.zero_add, Nat.reduceAdd]
  repeat' (first | refine goR rfl ?_ | refine goS rfl ?_ | refine tret1 rfl ?_ | refine tretN rfl ?_ | refine gY rfl rfl ?_ | refine gN rfl rfl ?_ | refine qT rfl rfl ?_ | refine qF rfl rfl ?_ | refine cA rfl (by rw [hP, hG]; exact c1) rfl ?_ | refine tr_mcallX hP hG (c2) rfl rfl rfl rfl rfl rfl rfl rfl rfl rfl rfl rfl ?_ | refine tr_make rfl rfl rfl rfl (by simp only [List.map_cons, List.map_nil, List.length_cons, List.length_nil]; decide) ?_ | fail)
  refine loopS (invO1 hB l) l.length ((w_virtC (j := 22) (i := 2) 6 49 rfl rfl).trans (w_canonM 60 [] [5, 28, 29, 30] hp rfl rfl rfl rfl ⟨mapI_froz [], trivial⟩)) ⟨[], l, rfl, rfl, rfl, rfl⟩ ?_
  rintro m1 env σ ⟨a, b, e, rfl, rfl, rfl⟩
  have hla : l.length = a.length + b.length := by rw [e, lA]
  have hVa := hB.run a
  obtain ⟨l1, l2⟩ := hVa.lens
  cases b with
  | nil =>
   rw [List.length_nil] at hla
   rw [List.append_nil] at e
   subst e
   have hfin : (trailR ⟨sy, []⟩ l).es = (dmA ⟨sy, []⟩ (tmL ⟨sy, []⟩ (tmB ⟨sy, []⟩) l) 0).1.es := by rw [dmA_r, tmL_r]; rfl
   rw [hfin]
   clear hfin
   generalize hk0 : tmL ⟨sy, []⟩ (tmB ⟨sy, []⟩) l = k0 at *
   have hle := fun i => (trV.dmA hVa i).lens
   have hbd := fun i => trV.dmA hVa i
   have hL0 : 0 + l.length ≤ 100 := by omega
   obtain ⟨⟨r1, R1, Q1⟩, hk1⟩ : ∃ q, q = k0 := ⟨_, rfl⟩
   rw [← hk1] at l1 l2
   rw [show (trC ⟨sy, []⟩ k0.1 k0.2.1 k0.2.2) = trC ⟨sy, []⟩ r1 R1 Q1 by rw [← hk1]]
   simp only at l1 l2
   obtain rfl := List.length_eq_zero_iff.1 l1
   obtain rfl := List.length_eq_zero_iff.1 l2
   repeat' (first | refine goR rfl ?_ | refine goS rfl ?_ | refine tret1 rfl ?_ | refine tretN rfl ?_ | refine gY rfl rfl ?_ | refine gN rfl rfl ?_ | refine qT rfl rfl ?_ | refine qF rfl rfl ?_ | refine qF rfl (dF (by omega)) ?_ | fail)
   refine loopS (invO2 hVa 0) 0 (w_canonM 60 [] [5, 42, 43] hp rfl rfl rfl rfl ⟨mapI_froz _, trivial⟩) ⟨0, by decide, rfl, rfl, by rw [show dmA _ k0 0 = k0 from rfl, ← hk1]; rfl⟩ ?_
   clear hk1 l1 l2
   rintro m2 env σ ⟨i, hi, rfl, rfl, rfl⟩
   have hi' : i = 0 := by omega
   have hbi := hbd i
   obtain ⟨l3, l4⟩ := hle i
   have hdn := dmA_succ ⟨sy, []⟩ k0 i
   rcases hi' with rfl
   ·obtain ⟨⟨r3, R3, Q3⟩, hk3⟩ : ∃ q, q = dmA ⟨sy, []⟩ k0 0 := ⟨_, rfl⟩
    rw [← hk3] at l3 l4
    rw [← hk3]
    simp only at l3 l4
    obtain rfl := List.length_eq_zero_iff.1 l3
    obtain rfl := List.length_eq_zero_iff.1 l4
    repeat' (first | refine goR rfl ?_ | refine goS rfl ?_ | refine tret1 rfl ?_ | refine tretN rfl ?_ | refine gY rfl rfl ?_ | refine gN rfl rfl ?_ | refine qT rfl rfl ?_ | refine qF rfl rfl ?_ | fail)
    show Fz _ _ (.lst 6 (r3.es.map cEv))
    (repeat' first | exact FzL.nil | refine FzL.cons ?_ ?_ | exact Fz.fr rfl | exact Fz.nil _ | exact Fz.s _ _ _ _ _ _ rfl (lM ..).symm | exact Fz.s _ _ _ _ _ _ rfl rfl | refine Fz.pL rfl ?_ | refine Fz.aggL ?_); first | done | fail
  | cons x b =>
   have hx : l[a.length]? = some x := by rw [e]; exact ix
   simp only [List.length_cons] at hla
   have hlt : decide ((a.length : Int) < ((l.map cPick).length : Int)) = true := dT (by omega)
   have hw1 : IntKind.i64.wrap ((a.length : Int) + 1) = ((a ++ [x]).length : Int) := by rw [w64 (by omega), lA]; rfl
   have cd := hdo hVa (by omega) x
   have hsn := tmL_snoc ⟨sy, []⟩ (tmB ⟨sy, []⟩) a x
   have hV2 := hVa.step x
   obtain ⟨l3, l4⟩ := hV2.lens
   rw [← hsn] at cd l3 l4
   clear hV2 hVa hsn
   generalize hc2 : tmL ⟨sy, []⟩ (tmB ⟨sy, []⟩) (a ++ [x]) = k2 at *
   generalize tmL ⟨sy, []⟩ (tmB ⟨sy, []⟩) a = k1 at *
   obtain ⟨r1, R1, Q1⟩ := k1
   obtain ⟨r2, R2, Q2⟩ := k2
   simp only at cd l1 l2 l3 l4
   obtain rfl := List.length_eq_zero_iff.1 l1
   obtain rfl := List.length_eq_zero_iff.1 l2
   obtain rfl := List.length_eq_zero_iff.1 l3
   obtain rfl := List.length_eq_zero_iff.1 l4
   obtain ⟨t, f⟩ := x
   repeat' (first | refine goR rfl ?_ | refine goS rfl ?_ | refine tret1 rfl ?_ | refine tretN rfl ?_ | refine gY rfl rfl ?_ | refine gN rfl rfl ?_ | refine qT rfl rfl ?_ | refine qF rfl rfl ?_ | refine qT rfl hlt ?_ | refine lT (tl_ixm rfl rfl rfl hx) ?_ | refine tr_mcallXM hP hG (cd) rfl rfl rfl rfl rfl rfl rfl rfl rfl rfl rfl rfl ⟨mapI_froz _, trivial⟩ ⟨mapI_froz _, trivial⟩ ?_ | fail)
   refine again (m' := b.length) (Nat.lt_succ_self _) (w_canonM 60 [] [5, 28, 29, 30] hp rfl rfl rfl rfl ⟨mapI_froz _, trivial⟩) ⟨a ++ [(t, f)], b, by rw [e]; simp, rfl, by rw [hw1], by rw [hc2]; rfl⟩
 ·refine Pure.at mixedOk F9 rfl fun C hP hG hp => goF ?_; simp only [F9, targEnv, Nat.zero_add, Nat.reduceAdd]
  repeat' (first | refine goR rfl ?_ | refine goS rfl ?_ | refine tret1 rfl ?_ | refine tretN rfl ?_ | refine gY rfl rfl ?_ | refine gN rfl rfl ?_ | refine qT rfl rfl ?_ | refine qF rfl rfl ?_ | refine cA rfl (by rw [hP, hG]; exact c1) rfl ?_ | refine tr_mcallX hP hG (c2) rfl rfl rfl rfl rfl rfl rfl rfl rfl rfl rfl rfl ?_ | refine tr_make rfl rfl rfl rfl (by simp only [List.map_cons, List.map_nil, List.length_cons, List.length_nil]; decide) ?_ | fail)
  refine loopS (invO1 hB l) l.length ((w_cellsR (k := 23) [.v (.slice none 0 0)] rfl (List.cons_ne_nil _ _) rfl).trans ((w_virtC (j := 23) (i := 0) 1 3 rfl rfl).trans ((w_virtC (j := 22) (i := 2) 6 49 rfl rfl).trans (w_canonM 60 [] [5, 28, 29, 30] hp rfl rfl rfl rfl ⟨mapI_froz [], trivial⟩)))) ⟨[], l, rfl, rfl, rfl, rfl⟩ ?_
  rintro m1 env σ ⟨a, b, e, rfl, rfl, rfl⟩
  have hla : l.length = a.length + b.length := by rw [e, lA]
  have hVa := hB.run a
  obtain ⟨l1, l2⟩ := hVa.lens
  cases b with
  | nil =>
   rw [List.length_nil] at hla
   rw [List.append_nil] at e
   subst e
   have hfin : (trailR ⟨sy, [t0]⟩ l).es = (dmA ⟨sy, [t0]⟩ (tmL ⟨sy, [t0]⟩ (tmB ⟨sy, [t0]⟩) l) 1).1.es := by rw [dmA_r, tmL_r]; rfl
   rw [hfin]
   clear hfin
   generalize hk0 : tmL ⟨sy, [t0]⟩ (tmB ⟨sy, [t0]⟩) l = k0 at *
   have hle := fun i => (trV.dmA hVa i).lens
   have hbd := fun i => trV.dmA hVa i
   have hL0 : 0 + l.length ≤ 100 := by omega
   obtain ⟨⟨r1, R1, Q1⟩, hk1⟩ : ∃ q, q = k0 := ⟨_, rfl⟩
   rw [← hk1] at l1 l2
   rw [show (trC ⟨sy, [t0]⟩ k0.1 k0.2.1 k0.2.2) = trC ⟨sy, [t0]⟩ r1 R1 Q1 by rw [← hk1]]
   simp only at l1 l2
   obtain ⟨_, rfl⟩ := List.length_eq_one_iff.1 l1
   obtain ⟨_, rfl⟩ := List.length_eq_one_iff.1 l2
   repeat' (first | refine goR rfl ?_ | refine goS rfl ?_ | refine tret1 rfl ?_ | refine tretN rfl ?_ | refine gY rfl rfl ?_ | refine gN rfl rfl ?_ | refine qT rfl rfl ?_ | refine qF rfl rfl ?_ | refine qF rfl (dF (by omega)) ?_ | fail)
   refine loopS (invO2 hVa 1) 1 (w_canonM 60 [] [5, 42, 43] hp rfl rfl rfl rfl ⟨mapI_froz _, trivial⟩) ⟨0, by decide, rfl, rfl, by rw [show dmA _ k0 0 = k0 from rfl, ← hk1]; rfl⟩ ?_
   clear hk1 l1 l2
   rintro m2 env σ ⟨i, hi, rfl, rfl, rfl⟩
   have hi' : i = 0 ∨ i = 1 := by omega
   have hbi := hbd i
   obtain ⟨l3, l4⟩ := hle i
   have hdn := dmA_succ ⟨sy, [t0]⟩ k0 i
   rcases hi' with rfl | rfl
   ·generalize dmA ⟨sy, [t0]⟩ k0 0 = ki at *
    have hib : 2 ^ 0 * (0 + l.length) ≤ 400 := by omega
    have hWl : (ki.1.W.getD 0 []).length ≤ 2 ^ 0 * (0 + l.length) := hbi.wlen 0
    generalize hLe : (ki.1.W.getD 0 []).length = L at *
    obtain ⟨⟨r3, R3, Q3⟩, hk3⟩ : ∃ q, q = ki := ⟨_, rfl⟩
    rw [← hk3] at l3 l4
    rw [show (trC ⟨sy, [t0]⟩ ki.1 ki.2.1 ki.2.2) = trC ⟨sy, [t0]⟩ r3 R3 Q3 by rw [← hk3]]
    simp only at l3 l4
    obtain ⟨_, rfl⟩ := List.length_eq_one_iff.1 l3
    obtain ⟨_, rfl⟩ := List.length_eq_one_iff.1 l4
    repeat' (first | refine goR rfl ?_ | refine goS rfl ?_ | refine tret1 rfl ?_ | refine tretN rfl ?_ | refine gY rfl rfl ?_ | refine gN rfl rfl ?_ | refine qT rfl rfl ?_ | refine qF rfl rfl ?_ | fail)
    refine loopS (invO3 hbi 1 0 L) L (w_canonM 60 [] [5, 8, 42, 43] hp rfl rfl rfl rfl ⟨mapI_froz _, trivial⟩) ⟨0, by omega, rfl, rfl, by rw [List.replicate_zero, show tmL _ ki [] = ki from rfl, ← hk3]; rfl⟩ ?_
    clear hk3 l3 l4
    rintro m3 env σ ⟨j, hj, rfl, rfl, rfl⟩
    have hVj := hbi.run (List.replicate j (((0 : Nat) : Int), true))
    rw [List.length_replicate] at hVj
    have hlj := hVj.lens
    have hlf := fun {q} => hbi.left (i := 0) (by show 0 < 1; decide) j (q := q)
    rw [hLe] at hlf
    have cd := hdo hVj (by omega) (((0 : Nat) : Int), true)
    have hsn := tmL_snoc ⟨sy, [t0]⟩ ki (List.replicate j (((0 : Nat) : Int), true)) (((0 : Nat) : Int), true)
    rw [← List.replicate_succ'] at hsn
    have hV2 := (hVj.step (((0 : Nat) : Int), true)).lens
    rw [← hsn] at cd hV2
    clear hVj hsn
    generalize hc2 : tmL ⟨sy, [t0]⟩ ki (List.replicate (j + 1) (((0 : Nat) : Int), true)) = k2 at *
    generalize hc1 : tmL ⟨sy, [t0]⟩ ki (List.replicate j (((0 : Nat) : Int), true)) = k1 at *
    obtain ⟨⟨r4, R4, Q4⟩, hk4⟩ : ∃ q, q = k1 := ⟨_, rfl⟩
    obtain ⟨r5, R5, Q5⟩ := k2
    rw [← hk4] at cd hlj hlf
    rw [show (trC ⟨sy, [t0]⟩ k1.1 k1.2.1 k1.2.2) = trC ⟨sy, [t0]⟩ r4 R4 Q4 by rw [← hk4]]
    obtain ⟨l5, l6⟩ := hlj
    obtain ⟨l7, l8⟩ := hV2
    simp only at cd l5 l6 l7 l8 hlf
    obtain ⟨_, rfl⟩ := List.length_eq_one_iff.1 l5
    obtain ⟨_, rfl⟩ := List.length_eq_one_iff.1 l6
    obtain ⟨_, rfl⟩ := List.length_eq_one_iff.1 l7
    obtain ⟨_, rfl⟩ := List.length_eq_one_iff.1 l8
    have hqn := hlf rfl
    by_cases hjl : j < L
    ·have hgt := hqn
     repeat' (first | refine goR rfl ?_ | refine goS rfl ?_ | refine tret1 rfl ?_ | refine tretN rfl ?_ | refine gY rfl rfl ?_ | refine gN rfl rfl ?_ | refine qT rfl rfl ?_ | refine qF rfl rfl ?_ | refine qT rfl (dT (by omega)) ?_ | refine lT (tl_ixo rfl rfl rfl (Nat.le_of_ble_eq_true rfl)) ?_ | refine lT (tl_ldEC rfl rfl rfl) ?_ | refine tr_mcallXM hP hG (cd) rfl rfl rfl rfl rfl rfl rfl rfl rfl rfl rfl rfl ⟨mapI_froz _, trivial⟩ ⟨mapI_froz _, trivial⟩ ?_ | fail)
     exact again (m' := L - (j + 1)) (by omega) (w_canonM 60 [] [5, 8, 42, 43] hp rfl rfl rfl rfl ⟨mapI_froz _, trivial⟩) ⟨j + 1, hjl, rfl, rfl, by rw [hc2]; rfl⟩
    ·have hje : j = L := by omega
     repeat' (first | refine goR rfl ?_ | refine goS rfl ?_ | refine tret1 rfl ?_ | refine tretN rfl ?_ | refine gY rfl rfl ?_ | refine gN rfl rfl ?_ | refine qT rfl rfl ?_ | refine qF rfl rfl ?_ | refine qF rfl (dF (by omega)) ?_ | refine lT (tl_ixo rfl rfl rfl (Nat.le_of_ble_eq_true rfl)) ?_ | refine lT (tl_ldEC rfl rfl rfl) ?_ | fail)
     rw [← hje, hc1, ← hk4] at hdn
     exact again (m' := 0) (by decide) (w_canonM 60 [] [5, 42, 43] hp rfl rfl rfl rfl ⟨mapI_froz _, trivial⟩) ⟨1, by decide, rfl, rfl, by rw [hdn]; rfl⟩
   ·obtain ⟨⟨r3, R3, Q3⟩, hk3⟩ : ∃ q, q = dmA ⟨sy, [t0]⟩ k0 1 := ⟨_, rfl⟩
    rw [← hk3] at l3 l4
    rw [← hk3]
    simp only at l3 l4
    obtain ⟨_, rfl⟩ := List.length_eq_one_iff.1 l3
    obtain ⟨_, rfl⟩ := List.length_eq_one_iff.1 l4
    repeat' (first | refine goR rfl ?_ | refine goS rfl ?_ | refine tret1 rfl ?_ | refine tretN rfl ?_ | refine gY rfl rfl ?_ | refine gN rfl rfl ?_ | refine qT rfl rfl ?_ | refine qF rfl rfl ?_ | fail)
    show Fz _ _ (.lst 6 (r3.es.map cEv))
    (repeat' first | exact FzL.nil | refine FzL.cons ?_ ?_ | exact Fz.fr rfl | exact Fz.nil _ | exact Fz.s _ _ _ _ _ _ rfl (lM ..).symm | exact Fz.s _ _ _ _ _ _ rfl rfl | refine Fz.pL rfl ?_ | refine Fz.aggL ?_); first | done | fail
  | cons x b =>
   have hx : l[a.length]? = some x := by rw [e]; exact ix
   simp only [List.length_cons] at hla
   have hlt : decide ((a.length : Int) < ((l.map cPick).length : Int)) = true := dT (by omega)
   have hw1 : IntKind.i64.wrap ((a.length : Int) + 1) = ((a ++ [x]).length : Int) := by rw [w64 (by omega), lA]; rfl
   have cd := hdo hVa (by omega) x
   have hsn := tmL_snoc ⟨sy, [t0]⟩ (tmB ⟨sy, [t0]⟩) a x
   have hV2 := hVa.step x
   obtain ⟨l3, l4⟩ := hV2.lens
   rw [← hsn] at cd l3 l4
   clear hV2 hVa hsn
   generalize hc2 : tmL ⟨sy, [t0]⟩ (tmB ⟨sy, [t0]⟩) (a ++ [x]) = k2 at *
   generalize tmL ⟨sy, [t0]⟩ (tmB ⟨sy, [t0]⟩) a = k1 at *
   obtain ⟨r1, R1, Q1⟩ := k1
   obtain ⟨r2, R2, Q2⟩ := k2
   simp only at cd l1 l2 l3 l4
   obtain ⟨_, rfl⟩ := List.length_eq_one_iff.1 l1
   obtain ⟨_, rfl⟩ := List.length_eq_one_iff.1 l2
   obtain ⟨_, rfl⟩ := List.length_eq_one_iff.1 l3
   obtain ⟨_, rfl⟩ := List.length_eq_one_iff.1 l4
   obtain ⟨t, f⟩ := x
   repeat' (first | refine goR rfl ?_ | refine goS rfl ?_ | refine tret1 rfl ?_ | refine tretN rfl ?_ | refine gY rfl rfl ?_ | refine gN rfl rfl ?_ | refine qT rfl rfl ?_ | refine qF rfl rfl ?_ | refine qT rfl hlt ?_ | refine lT (tl_ixm rfl rfl rfl hx) ?_ | refine tr_mcallXM hP hG (cd) rfl rfl rfl rfl rfl rfl rfl rfl rfl rfl rfl rfl ⟨mapI_froz _, trivial⟩ ⟨mapI_froz _, trivial⟩ ?_ | fail)
   refine again (m' := b.length) (Nat.lt_succ_self _) (w_canonM 60 [] [5, 28, 29, 30] hp rfl rfl rfl rfl ⟨mapI_froz _, trivial⟩) ⟨a ++ [(t, f)], b, by rw [e]; simp, rfl, by rw [hw1], by rw [hc2]; rfl⟩
 ·refine Pure.at mixedOk F9 rfl fun C hP hG hp => goF ?_; simp only [F9, targEnv, Nat.zero_add, Nat.reduceAdd]
  repeat' (first | refine goR rfl ?_ | refine goS rfl ?_ | refine tret1 rfl ?_ | refine tretN rfl ?_ | refine gY rfl rfl ?_ | refine gN rfl rfl ?_ | refine qT rfl rfl ?_ | refine qF rfl rfl ?_ | refine cA rfl (by rw [hP, hG]; exact c1) rfl ?_ | refine tr_mcallX hP hG (c2) rfl rfl rfl rfl rfl rfl rfl rfl rfl rfl rfl rfl ?_ | refine tr_make rfl rfl rfl rfl (by simp only [List.map_cons, List.map_nil, List.length_cons, List.length_nil]; decide) ?_ | fail)
  refine loopS (invO1 hB l) l.length ((w_cellsR (k := 23) [.v (.slice none 0 0), .v (.slice none 0 0)] rfl (List.cons_ne_nil _ _) rfl).trans ((w_virtC (j := 23) (i := 0) 1 3 rfl rfl).trans ((w_virtC (j := 23) (i := 1) 1 3 rfl rfl).trans ((w_virtC (j := 22) (i := 2) 6 49 rfl rfl).trans (w_canonM 60 [] [5, 28, 29, 30] hp rfl rfl rfl rfl ⟨mapI_froz [], trivial⟩))))) ⟨[], l, rfl, rfl, rfl, rfl⟩ ?_
  rintro m1 env σ ⟨a, b, e, rfl, rfl, rfl⟩
  have hla : l.length = a.length + b.length := by rw [e, lA]
  have hVa := hB.run a
  obtain ⟨l1, l2⟩ := hVa.lens
  cases b with
  | nil =>
   rw [List.length_nil] at hla
   rw [List.append_nil] at e
   subst e
   have hfin : (trailR ⟨sy, [t0, t1]⟩ l).es = (dmA ⟨sy, [t0, t1]⟩ (tmL ⟨sy, [t0, t1]⟩ (tmB ⟨sy, [t0, t1]⟩) l) 2).1.es := by rw [dmA_r, tmL_r]; rfl
   rw [hfin]
   clear hfin
   generalize hk0 : tmL ⟨sy, [t0, t1]⟩ (tmB ⟨sy, [t0, t1]⟩) l = k0 at *
   have hle := fun i => (trV.dmA hVa i).lens
   have hbd := fun i => trV.dmA hVa i
   have hL0 : 0 + l.length ≤ 100 := by omega
   obtain ⟨⟨r1, R1, Q1⟩, hk1⟩ : ∃ q, q = k0 := ⟨_, rfl⟩
   rw [← hk1] at l1 l2
   rw [show (trC ⟨sy, [t0, t1]⟩ k0.1 k0.2.1 k0.2.2) = trC ⟨sy, [t0, t1]⟩ r1 R1 Q1 by rw [← hk1]]
   simp only at l1 l2
   obtain ⟨_, _, rfl⟩ := len2 l1
   obtain ⟨_, _, rfl⟩ := len2 l2
   repeat' (first | refine goR rfl ?_ | refine goS rfl ?_ | refine tret1 rfl ?_ | refine tretN rfl ?_ | refine gY rfl rfl ?_ | refine gN rfl rfl ?_ | refine qT rfl rfl ?_ | refine qF rfl rfl ?_ | refine qF rfl (dF (by omega)) ?_ | fail)
   refine loopS (invO2 hVa 2) 2 (w_canonM 60 [] [5, 42, 43] hp rfl rfl rfl rfl ⟨mapI_froz _, trivial⟩) ⟨0, by decide, rfl, rfl, by rw [show dmA _ k0 0 = k0 from rfl, ← hk1]; rfl⟩ ?_
   clear hk1 l1 l2
   rintro m2 env σ ⟨i, hi, rfl, rfl, rfl⟩
   have hi' : i = 0 ∨ i = 1 ∨ i = 2 := by omega
   have hbi := hbd i
   obtain ⟨l3, l4⟩ := hle i
   have hdn := dmA_succ ⟨sy, [t0, t1]⟩ k0 i
   rcases hi' with rfl | rfl | rfl
   ·generalize dmA ⟨sy, [t0, t1]⟩ k0 0 = ki at *
    have hib : 2 ^ 0 * (0 + l.length) ≤ 400 := by omega
    have hWl : (ki.1.W.getD 0 []).length ≤ 2 ^ 0 * (0 + l.length) := hbi.wlen 0
    generalize hLe : (ki.1.W.getD 0 []).length = L at *
    obtain ⟨⟨r3, R3, Q3⟩, hk3⟩ : ∃ q, q = ki := ⟨_, rfl⟩
    rw [← hk3] at l3 l4
    rw [show (trC ⟨sy, [t0, t1]⟩ ki.1 ki.2.1 ki.2.2) = trC ⟨sy, [t0, t1]⟩ r3 R3 Q3 by rw [← hk3]]
    simp only at l3 l4
    obtain ⟨_, _, rfl⟩ := len2 l3
    obtain ⟨_, _, rfl⟩ := len2 l4
    repeat' (first | refine goR rfl ?_ | refine goS rfl ?_ | refine tret1 rfl ?_ | refine tretN rfl ?_ | refine gY rfl rfl ?_ | refine gN rfl rfl ?_ | refine qT rfl rfl ?_ | refine qF rfl rfl ?_ | fail)
    refine loopS (invO3 hbi 2 0 L) L (w_canonM 60 [] [5, 8, 42, 43] hp rfl rfl rfl rfl ⟨mapI_froz _, trivial⟩) ⟨0, by omega, rfl, rfl, by rw [List.replicate_zero, show tmL _ ki [] = ki from rfl, ← hk3]; rfl⟩ ?_
    clear hk3 l3 l4
    rintro m3 env σ ⟨j, hj, rfl, rfl, rfl⟩
    have hVj := hbi.run (List.replicate j (((0 : Nat) : Int), true))
    rw [List.length_replicate] at hVj
    have hlj := hVj.lens
    have hlf := fun {q} => hbi.left (i := 0) (by show 0 < 2; decide) j (q := q)
    rw [hLe] at hlf
    have cd := hdo hVj (by omega) (((0 : Nat) : Int), true)
    have hsn := tmL_snoc ⟨sy, [t0, t1]⟩ ki (List.replicate j (((0 : Nat) : Int), true)) (((0 : Nat) : Int), true)
    rw [← List.replicate_succ'] at hsn
    have hV2 := (hVj.step (((0 : Nat) : Int), true)).lens
    rw [← hsn] at cd hV2
    clear hVj hsn
    generalize hc2 : tmL ⟨sy, [t0, t1]⟩ ki (List.replicate (j + 1) (((0 : Nat) : Int), true)) = k2 at *
    generalize hc1 : tmL ⟨sy, [t0, t1]⟩ ki (List.replicate j (((0 : Nat) : Int), true)) = k1 at *
    obtain ⟨⟨r4, R4, Q4⟩, hk4⟩ : ∃ q, q = k1 := ⟨_, rfl⟩
    obtain ⟨r5, R5, Q5⟩ := k2
    rw [← hk4] at cd hlj hlf
    rw [show (trC ⟨sy, [t0, t1]⟩ k1.1 k1.2.1 k1.2.2) = trC ⟨sy, [t0, t1]⟩ r4 R4 Q4 by rw [← hk4]]
    obtain ⟨l5, l6⟩ := hlj
    obtain ⟨l7, l8⟩ := hV2
    simp only at cd l5 l6 l7 l8 hlf
    obtain ⟨_, _, rfl⟩ := len2 l5
    obtain ⟨_, _, rfl⟩ := len2 l6
    obtain ⟨_, _, rfl⟩ := len2 l7
    obtain ⟨_, _, rfl⟩ := len2 l8
    have hqn := hlf rfl
    by_cases hjl : j < L
    ·have hgt := hqn
     repeat' (first | refine goR rfl ?_ | refine goS rfl ?_ | refine tret1 rfl ?_ | refine tretN rfl ?_ | refine gY rfl rfl ?_ | refine gN rfl rfl ?_ | refine qT rfl rfl ?_ | refine qF rfl rfl ?_ | refine qT rfl (dT (by omega)) ?_ | refine lT (tl_ixo rfl rfl rfl (Nat.le_of_ble_eq_true rfl)) ?_ | refine lT (tl_ldEC rfl rfl rfl) ?_ | refine tr_mcallXM hP hG (cd) rfl rfl rfl rfl rfl rfl rfl rfl rfl rfl rfl rfl ⟨mapI_froz _, trivial⟩ ⟨mapI_froz _, trivial⟩ ?_ | fail)
     exact again (m' := L - (j + 1)) (by omega) (w_canonM 60 [] [5, 8, 42, 43] hp rfl rfl rfl rfl ⟨mapI_froz _, trivial⟩) ⟨j + 1, hjl, rfl, rfl, by rw [hc2]; rfl⟩
    ·have hje : j = L := by omega
     repeat' (first | refine goR rfl ?_ | refine goS rfl ?_ | refine tret1 rfl ?_ | refine tretN rfl ?_ | refine gY rfl rfl ?_ | refine gN rfl rfl ?_ | refine qT rfl rfl ?_ | refine qF rfl rfl ?_ | refine qF rfl (dF (by omega)) ?_ | refine lT (tl_ixo rfl rfl rfl (Nat.le_of_ble_eq_true rfl)) ?_ | refine lT (tl_ldEC rfl rfl rfl) ?_ | fail)
     rw [← hje, hc1, ← hk4] at hdn
     exact again (m' := 1) (by decide) (w_canonM 60 [] [5, 42, 43] hp rfl rfl rfl rfl ⟨mapI_froz _, trivial⟩) ⟨1, by decide, rfl, rfl, by rw [hdn]; rfl⟩
   ·generalize dmA ⟨sy, [t0, t1]⟩ k0 1 = ki at *
    have hib : 2 ^ 1 * (0 + l.length) ≤ 400 := by omega
    have hWl : (ki.1.W.getD 1 []).length ≤ 2 ^ 1 * (0 + l.length) := hbi.wlen 1
    generalize hLe : (ki.1.W.getD 1 []).length = L at *
    obtain ⟨⟨r3, R3, Q3⟩, hk3⟩ : ∃ q, q = ki := ⟨_, rfl⟩
    rw [← hk3] at l3 l4
    rw [show (trC ⟨sy, [t0, t1]⟩ ki.1 ki.2.1 ki.2.2) = trC ⟨sy, [t0, t1]⟩ r3 R3 Q3 by rw [← hk3]]
    simp only at l3 l4
    obtain ⟨_, _, rfl⟩ := len2 l3
    obtain ⟨_, _, rfl⟩ := len2 l4
    repeat' (first | refine goR rfl ?_ | refine goS rfl ?_ | refine tret1 rfl ?_ | refine tretN rfl ?_ | refine gY rfl rfl ?_ | refine gN rfl rfl ?_ | refine qT rfl rfl ?_ | refine qF rfl rfl ?_ | fail)
    refine loopS (invO3 hbi 2 1 L) L (w_canonM 60 [] [5, 8, 42, 43] hp rfl rfl rfl rfl ⟨mapI_froz _, trivial⟩) ⟨0, by omega, rfl, rfl, by rw [List.replicate_zero, show tmL _ ki [] = ki from rfl, ← hk3]; rfl⟩ ?_
    clear hk3 l3 l4
    rintro m3 env σ ⟨j, hj, rfl, rfl, rfl⟩
    have hVj := hbi.run (List.replicate j (((1 : Nat) : Int), true))
    rw [List.length_replicate] at hVj
    have hlj := hVj.lens
    have hlf := fun {q} => hbi.left (i := 1) (by show 1 < 2; decide) j (q := q)
    rw [hLe] at hlf
    have cd := hdo hVj (by omega) (((1 : Nat) : Int), true)
    have hsn := tmL_snoc ⟨sy, [t0, t1]⟩ ki (List.replicate j (((1 : Nat) : Int), true)) (((1 : Nat) : Int), true)
    rw [← List.replicate_succ'] at hsn
    have hV2 := (hVj.step (((1 : Nat) : Int), true)).lens
    rw [← hsn] at cd hV2
    clear hVj hsn
    generalize hc2 : tmL ⟨sy, [t0, t1]⟩ ki (List.replicate (j + 1) (((1 : Nat) : Int), true)) = k2 at *
    generalize hc1 : tmL ⟨sy, [t0, t1]⟩ ki (List.replicate j (((1 : Nat) : Int), true)) = k1 at *
    obtain ⟨⟨r4, R4, Q4⟩, hk4⟩ : ∃ q, q = k1 := ⟨_, rfl⟩
    obtain ⟨r5, R5, Q5⟩ := k2
    rw [← hk4] at cd hlj hlf
    rw [show (trC ⟨sy, [t0, t1]⟩ k1.1 k1.2.1 k1.2.2) = trC ⟨sy, [t0, t1]⟩ r4 R4 Q4 by rw [← hk4]]
    obtain ⟨l5, l6⟩ := hlj
    obtain ⟨l7, l8⟩ := hV2
    simp only at cd l5 l6 l7 l8 hlf
    obtain ⟨_, _, rfl⟩ := len2 l5
    obtain ⟨_, _, rfl⟩ := len2 l6
    obtain ⟨_, _, rfl⟩ := len2 l7
    obtain ⟨_, _, rfl⟩ := len2 l8
    have hqn := hlf rfl
    by_cases hjl : j < L
    ·have hgt := hqn
     repeat' (first | refine goR rfl ?_ | refine goS rfl ?_ | refine tret1 rfl ?_ | refine tretN rfl ?_ | refine gY rfl rfl ?_ | refine gN rfl rfl ?_ | refine qT rfl rfl ?_ | refine qF rfl rfl ?_ | refine qT rfl (dT (by omega)) ?_ | refine lT (tl_ixo rfl rfl rfl (Nat.le_of_ble_eq_true rfl)) ?_ | refine lT (tl_ldEC rfl rfl rfl) ?_ | refine tr_mcallXM hP hG (cd) rfl rfl rfl rfl rfl rfl rfl rfl rfl rfl rfl rfl ⟨mapI_froz _, trivial⟩ ⟨mapI_froz _, trivial⟩ ?_ | fail)
     exact again (m' := L - (j + 1)) (by omega) (w_canonM 60 [] [5, 8, 42, 43] hp rfl rfl rfl rfl ⟨mapI_froz _, trivial⟩) ⟨j + 1, hjl, rfl, rfl, by rw [hc2]; rfl⟩
    ·have hje : j = L := by omega
     repeat' (first | refine goR rfl ?_ | refine goS rfl ?_ | refine tret1 rfl ?_ | refine tretN rfl ?_ | refine gY rfl rfl ?_ | refine gN rfl rfl ?_ | refine qT rfl rfl ?_ | refine qF rfl rfl ?_ | refine qF rfl (dF (by omega)) ?_ | refine lT (tl_ixo rfl rfl rfl (Nat.le_of_ble_eq_true rfl)) ?_ | refine lT (tl_ldEC rfl rfl rfl) ?_ | fail)
     rw [← hje, hc1, ← hk4] at hdn
     exact again (m' := 0) (by decide) (w_canonM 60 [] [5, 42, 43] hp rfl rfl rfl rfl ⟨mapI_froz _, trivial⟩) ⟨2, by decide, rfl, rfl, by rw [hdn]; rfl⟩
   ·obtain ⟨⟨r3, R3, Q3⟩, hk3⟩ : ∃ q, q = dmA ⟨sy, [t0, t1]⟩ k0 2 := ⟨_, rfl⟩
    rw [← hk3] at l3 l4
    rw [← hk3]
    simp only at l3 l4
    obtain ⟨_, _, rfl⟩ := len2 l3
    obtain ⟨_, _, rfl⟩ := len2 l4
    repeat' (first | refine goR rfl ?_ | refine goS rfl ?_ | refine tret1 rfl ?_ | refine tretN rfl ?_ | refine gY rfl rfl ?_ | refine gN rfl rfl ?_ | refine qT rfl rfl ?_ | refine qF rfl rfl ?_ | fail)
    show Fz _ _ (.lst 6 (r3.es.map cEv))
    (repeat' first | exact FzL.nil | refine FzL.cons ?_ ?_ | exact Fz.fr rfl | exact Fz.nil _ | exact Fz.s _ _ _ _ _ _ rfl (lM ..).symm | exact Fz.s _ _ _ _ _ _ rfl rfl | refine Fz.pL rfl ?_ | refine Fz.aggL ?_); first | done | fail
  | cons x b =>
   have hx : l[a.length]? = some x := by rw [e]; exact ix
   simp only [List.length_cons] at hla
   have hlt : decide ((a.length : Int) < ((l.map cPick).length : Int)) = true := dT (by omega)
   have hw1 : IntKind.i64.wrap ((a.length : Int) + 1) = ((a ++ [x]).length : Int) := by rw [w64 (by omega), lA]; rfl
   have cd := hdo hVa (by omega) x
   have hsn := tmL_snoc ⟨sy, [t0, t1]⟩ (tmB ⟨sy, [t0, t1]⟩) a x
   have hV2 := hVa.step x
   obtain ⟨l3, l4⟩ := hV2.lens
   rw [← hsn] at cd l3 l4
   clear hV2 hVa hsn
   generalize hc2 : tmL ⟨sy, [t0, t1]⟩ (tmB ⟨sy, [t0, t1]⟩) (a ++ [x]) = k2 at *
   generalize tmL ⟨sy, [t0, t1]⟩ (tmB ⟨sy, [t0, t1]⟩) a = k1 at *
   obtain ⟨r1, R1, Q1⟩ := k1
   obtain ⟨r2, R2, Q2⟩ := k2
   simp only at cd l1 l2 l3 l4
   obtain ⟨_, _, rfl⟩ := len2 l1
   obtain ⟨_, _, rfl⟩ := len2 l2
   obtain ⟨_, _, rfl⟩ := len2 l3
   obtain ⟨_, _, rfl⟩ := len2 l4
   obtain ⟨t, f⟩ := x
   repeat' (first | refine goR rfl ?_ | refine goS rfl ?_ | refine tret1 rfl ?_ | refine tretN rfl ?_ | refine gY rfl rfl ?_ | refine gN rfl rfl ?_ | refine qT rfl rfl ?_ | refine qF rfl rfl ?_ | refine qT rfl hlt ?_ | refine lT (tl_ixm rfl rfl rfl hx) ?_ | refine tr_mcallXM hP hG (cd) rfl rfl rfl rfl rfl rfl rfl rfl rfl rfl rfl rfl ⟨mapI_froz _, trivial⟩ ⟨mapI_froz _, trivial⟩ ?_ | fail)
   refine again (m' := b.length) (Nat.lt_succ_self _) (w_canonM 60 [] [5, 28, 29, 30] hp rfl rfl rfl rfl ⟨mapI_froz _, trivial⟩) ⟨a ++ [(t, f)], b, by rw [e]; simp, rfl, by rw [hw1], by rw [hc2]; rfl⟩
 ·refine Pure.at mixedOk F9 rfl fun C hP hG hp => goF ?_; simp only [F9, targEnv, Nat.zero_add, Nat.reduceAdd]
  repeat' (first | refine goR rfl ?_ | refine goS rfl ?_ | refine tret1 rfl ?_ | refine tretN rfl ?_ | refine gY rfl rfl ?_ | refine gN rfl rfl ?_ | refine qT rfl rfl ?_ | refine qF rfl rfl ?_ | refine cA rfl (by rw [hP, hG]; exact c1) rfl ?_ | refine tr_mcallX hP hG (c2) rfl rfl rfl rfl rfl rfl rfl rfl rfl rfl rfl rfl ?_ | refine tr_make rfl rfl rfl rfl (by simp only [List.map_cons, List.map_nil, List.length_cons, List.length_nil]; decide) ?_ | fail)
  refine loopS (invO1 hB l) l.length ((w_cellsR (k := 23) [.v (.slice none 0 0), .v (.slice none 0 0), .v (.slice none 0 0)] rfl (List.cons_ne_nil _ _) rfl).trans ((w_virtC (j := 23) (i := 0) 1 3 rfl rfl).trans ((w_virtC (j := 23) (i := 1) 1 3 rfl rfl).trans ((w_virtC (j := 23) (i := 2) 1 3 rfl rfl).trans ((w_virtC (j := 22) (i := 2) 6 49 rfl rfl).trans (w_canonM 60 [] [5, 28, 29, 30] hp rfl rfl rfl rfl ⟨mapI_froz [], trivial⟩)))))) ⟨[], l, rfl, rfl, rfl, rfl⟩ ?_
  rintro m1 env σ ⟨a, b, e, rfl, rfl, rfl⟩
  have hla : l.length = a.length + b.length := by rw [e, lA]
  have hVa := hB.run a
  obtain ⟨l1, l2⟩ := hVa.lens
  cases b with
  | nil =>
   rw [List.length_nil] at hla
   rw [List.append_nil] at e
   subst e
   have hfin : (trailR ⟨sy, [t0, t1, t2]⟩ l).es = (dmA ⟨sy, [t0, t1, t2]⟩ (tmL ⟨sy, [t0, t1, t2]⟩ (tmB ⟨sy, [t0, t1, t2]⟩) l) 3).1.es := by rw [dmA_r, tmL_r]; rfl
   rw [hfin]
   clear hfin
   generalize hk0 : tmL ⟨sy, [t0, t1, t2]⟩ (tmB ⟨sy, [t0, t1, t2]⟩) l = k0 at *
   have hle := fun i => (trV.dmA hVa i).lens
   have hbd := fun i => trV.dmA hVa i
   have hL0 : 0 + l.length ≤ 100 := by omega
   obtain ⟨⟨r1, R1, Q1⟩, hk1⟩ : ∃ q, q = k0 := ⟨_, rfl⟩
   rw [← hk1] at l1 l2
   rw [show (trC ⟨sy, [t0, t1, t2]⟩ k0.1 k0.2.1 k0.2.2) = trC ⟨sy, [t0, t1, t2]⟩ r1 R1 Q1 by rw [← hk1]]
   simp only at l1 l2
   obtain ⟨_, _, _, rfl⟩ := len3 l1
   obtain ⟨_, _, _, rfl⟩ := len3 l2
   repeat' (first | refine goR rfl ?_ | refine goS rfl ?_ | refine tret1 rfl ?_ | refine tretN rfl ?_ | refine gY rfl rfl ?_ | refine gN rfl rfl ?_ | refine qT rfl rfl ?_ | refine qF rfl rfl ?_ | refine qF rfl (dF (by omega)) ?_ | fail)
   refine loopS (invO2 hVa 3) 3 (w_canonM 60 [] [5, 42, 43] hp rfl rfl rfl rfl ⟨mapI_froz _, trivial⟩) ⟨0, by decide, rfl, rfl, by rw [show dmA _ k0 0 = k0 from rfl, ← hk1]; rfl⟩ ?_
   clear hk1 l1 l2
   rintro m2 env σ ⟨i, hi, rfl, rfl, rfl⟩
   have hi' : i = 0 ∨ i = 1 ∨ i = 2 ∨ i = 3 := by omega
   have hbi := hbd i
   obtain ⟨l3, l4⟩ := hle i
   have hdn := dmA_succ ⟨sy, [t0, t1, t2]⟩ k0 i
   rcases hi' with rfl | rfl | rfl | rfl
   ·generalize dmA ⟨sy, [t0, t1, t2]⟩ k0 0 = ki at *
    have hib : 2 ^ 0 * (0 + l.length) ≤ 400 := by omega
    have hWl : (ki.1.W.getD 0 []).length ≤ 2 ^ 0 * (0 + l.length) := hbi.wlen 0
    generalize hLe : (ki.1.W.getD 0 []).length = L at *
    obtain ⟨⟨r3, R3, Q3⟩, hk3⟩ : ∃ q, q = ki := ⟨_, rfl⟩
    rw [← hk3] at l3 l4
    rw [show (trC ⟨sy, [t0, t1, t2]⟩ ki.1 ki.2.1 ki.2.2) = trC ⟨sy, [t0, t1, t2]⟩ r3 R3 Q3 by rw [← hk3]]
    simp only at l3 l4
    obtain ⟨_, _, _, rfl⟩ := len3 l3
    obtain ⟨_, _, _, rfl⟩ := len3 l4
    repeat' (first | refine goR rfl ?_ | refine goS rfl ?_ | refine tret1 rfl ?_ | refine tretN rfl ?_ | refine gY rfl rfl ?_ | refine gN rfl rfl ?_ | refine qT rfl rfl ?_ | refine qF rfl rfl ?_ | fail)
    refine loopS (invO3 hbi 3 0 L) L (w_canonM 60 [] [5, 8, 42, 43] hp rfl rfl rfl rfl ⟨mapI_froz _, trivial⟩) ⟨0, by omega, rfl, rfl, by rw [List.replicate_zero, show tmL _ ki [] = ki from rfl, ← hk3]; rfl⟩ ?_
    clear hk3 l3 l4
    rintro m3 env σ ⟨j, hj, rfl, rfl, rfl⟩
    have hVj := hbi.run (List.replicate j (((0 : Nat) : Int), true))
    rw [List.length_replicate] at hVj
    have hlj := hVj.lens
    have hlf := fun {q} => hbi.left (i := 0) (by show 0 < 3; decide) j (q := q)
    rw [hLe] at hlf
    have cd := hdo hVj (by omega) (((0 : Nat) : Int), true)
    have hsn := tmL_snoc ⟨sy, [t0, t1, t2]⟩ ki (List.replicate j (((0 : Nat) : Int), true)) (((0 : Nat) : Int), true)
    rw [← List.replicate_succ'] at hsn
    have hV2 := (hVj.step (((0 : Nat) : Int), true)).lens
    rw [← hsn] at cd hV2
    clear hVj hsn
    generalize hc2 : tmL ⟨sy, [t0, t1, t2]⟩ ki (List.replicate (j + 1) (((0 : Nat) : Int), true)) = k2 at *
    generalize hc1 : tmL ⟨sy, [t0, t1, t2]⟩ ki (List.replicate j (((0 : Nat) : Int), true)) = k1 at *
    obtain ⟨⟨r4, R4, Q4⟩, hk4⟩ : ∃ q, q = k1 := ⟨_, rfl⟩
    obtain ⟨r5, R5, Q5⟩ := k2
    rw [← hk4] at cd hlj hlf
    rw [show (trC ⟨sy, [t0, t1, t2]⟩ k1.1 k1.2.1 k1.2.2) = trC ⟨sy, [t0, t1, t2]⟩ r4 R4 Q4 by rw [← hk4]]
    obtain ⟨l5, l6⟩ := hlj
    obtain ⟨l7, l8⟩ := hV2
    simp only at cd l5 l6 l7 l8 hlf
    obtain ⟨_, _, _, rfl⟩ := len3 l5
    obtain ⟨_, _, _, rfl⟩ := len3 l6
    obtain ⟨_, _, _, rfl⟩ := len3 l7
    obtain ⟨_, _, _, rfl⟩ := len3 l8
    have hqn := hlf rfl
    by_cases hjl : j < L
    ·have hgt := hqn
     repeat' (first | refine goR rfl ?_ | refine goS rfl ?_ | refine tret1 rfl ?_ | refine tretN rfl ?_ | refine gY rfl rfl ?_ | refine gN rfl rfl ?_ | refine qT rfl rfl ?_ | refine qF rfl rfl ?_ | refine qT rfl (dT (by omega)) ?_ | refine lT (tl_ixo rfl rfl rfl (Nat.le_of_ble_eq_true rfl)) ?_ | refine lT (tl_ldEC rfl rfl rfl) ?_ | refine tr_mcallXM hP hG (cd) rfl rfl rfl rfl rfl rfl rfl rfl rfl rfl rfl rfl ⟨mapI_froz _, trivial⟩ ⟨mapI_froz _, trivial⟩ ?_ | fail)
     exact again (m' := L - (j + 1)) (by omega) (w_canonM 60 [] [5, 8, 42, 43] hp rfl rfl rfl rfl ⟨mapI_froz _, trivial⟩) ⟨j + 1, hjl, rfl, rfl, by rw [hc2]; rfl⟩
    ·have hje : j = L := by omega
     repeat' (first | refine goR rfl ?_ | refine goS rfl ?_ | refine tret1 rfl ?_ | refine tretN rfl ?_ | refine gY rfl rfl ?_ | refine gN rfl rfl ?_ | refine qT rfl rfl ?_ | refine qF rfl rfl ?_ | refine qF rfl (dF (by omega)) ?_ | refine lT (tl_ixo rfl rfl rfl (Nat.le_of_ble_eq_true rfl)) ?_ | refine lT (tl_ldEC rfl rfl rfl) ?_ | fail)
     rw [← hje, hc1, ← hk4] at hdn
     exact again (m' := 2) (by decide) (w_canonM 60 [] [5, 42, 43] hp rfl rfl rfl rfl ⟨mapI_froz _, trivial⟩) ⟨1, by decide, rfl, rfl, by rw [hdn]; rfl⟩
   ·generalize dmA ⟨sy, [t0, t1, t2]⟩ k0 1 = ki at *
    have hib : 2 ^ 1 * (0 + l.length) ≤ 400 := by omega
    have hWl : (ki.1.W.getD 1 []).length ≤ 2 ^ 1 * (0 + l.length) := hbi.wlen 1
    generalize hLe : (ki.1.W.getD 1 []).length = L at *
    obtain ⟨⟨r3, R3, Q3⟩, hk3⟩ : ∃ q, q = ki := ⟨_, rfl⟩
    rw [← hk3] at l3 l4
    rw [show (trC ⟨sy, [t0, t1, t2]⟩ ki.1 ki.2.1 ki.2.2) = trC ⟨sy, [t0, t1, t2]⟩ r3 R3 Q3 by rw [← hk3]]
    simp only at l3 l4
    obtain ⟨_, _, _, rfl⟩ := len3 l3
    obtain ⟨_, _, _, rfl⟩ := len3 l4
    repeat' (first | refine goR rfl ?_ | refine goS rfl ?_ | refine tret1 rfl ?_ | refine tretN rfl ?_ | refine gY rfl rfl ?_ | refine gN rfl rfl ?_ | refine qT rfl rfl ?_ | refine qF rfl rfl ?_ | fail)
    refine loopS (invO3 hbi 3 1 L) L (w_canonM 60 [] [5, 8, 42, 43] hp rfl rfl rfl rfl ⟨mapI_froz _, trivial⟩) ⟨0, by omega, rfl, rfl, by rw [List.replicate_zero, show tmL _ ki [] = ki from rfl, ← hk3]; rfl⟩ ?_
    clear hk3 l3 l4
    rintro m3 env σ ⟨j, hj, rfl, rfl, rfl⟩
    have hVj := hbi.run (List.replicate j (((1 : Nat) : Int), true))
    rw [List.length_replicate] at hVj
    have hlj := hVj.lens
    have hlf := fun {q} => hbi.left (i := 1) (by show 1 < 3; decide) j (q := q)
    rw [hLe] at hlf
    have cd := hdo hVj (by omega) (((1 : Nat) : Int), true)
    have hsn := tmL_snoc ⟨sy, [t0, t1, t2]⟩ ki (List.replicate j (((1 : Nat) : Int), true)) (((1 : Nat) : Int), true)
    rw [← List.replicate_succ'] at hsn
    have hV2 := (hVj.step (((1 : Nat) : Int), true)).lens
    rw [← hsn] at cd hV2
    clear hVj hsn
    generalize hc2 : tmL ⟨sy, [t0, t1, t2]⟩ ki (List.replicate (j + 1) (((1 : Nat) : Int), true)) = k2 at *
    generalize hc1 : tmL ⟨sy, [t0, t1, t2]⟩ ki (List.replicate j (((1 : Nat) : Int), true)) = k1 at *
    obtain ⟨⟨r4, R4, Q4⟩, hk4⟩ : ∃ q, q = k1 := ⟨_, rfl⟩
    obtain ⟨r5, R5, Q5⟩ := k2
    rw [← hk4] at cd hlj hlf
    rw [show (trC ⟨sy, [t0, t1, t2]⟩ k1.1 k1.2.1 k1.2.2) = trC ⟨sy, [t0, t1, t2]⟩ r4 R4 Q4 by rw [← hk4]]
    obtain ⟨l5, l6⟩ := hlj
    obtain ⟨l7, l8⟩ := hV2
    simp only at cd l5 l6 l7 l8 hlf
    obtain ⟨_, _, _, rfl⟩ := len3 l5
    obtain ⟨_, _, _, rfl⟩ := len3 l6
    obtain ⟨_, _, _, rfl⟩ := len3 l7
    obtain ⟨_, _, _, rfl⟩ := len3 l8
    have hqn := hlf rfl
    by_cases hjl : j < L
    ·have hgt := hqn
     repeat' (first | refine goR rfl ?_ | refine goS rfl ?_ | refine tret1 rfl ?_ | refine tretN rfl ?_ | refine gY rfl rfl ?_ | refine gN rfl rfl ?_ | refine qT rfl rfl ?_ | refine qF rfl rfl ?_ | refine qT rfl (dT (by omega)) ?_ | refine lT (tl_ixo rfl rfl rfl (Nat.le_of_ble_eq_true rfl)) ?_ | refine lT (tl_ldEC rfl rfl rfl) ?_ | refine tr_mcallXM hP hG (cd) rfl rfl rfl rfl rfl rfl rfl rfl rfl rfl rfl rfl ⟨mapI_froz _, trivial⟩ ⟨mapI_froz _, trivial⟩ ?_ | fail)
     exact again (m' := L - (j + 1)) (by omega) (w_canonM 60 [] [5, 8, 42, 43] hp rfl rfl rfl rfl ⟨mapI_froz _, trivial⟩) ⟨j + 1, hjl, rfl, rfl, by rw [hc2]; rfl⟩
    ·have hje : j = L := by omega
     repeat' (first | refine goR rfl ?_ | refine goS rfl ?_ | refine tret1 rfl ?_ | refine tretN rfl ?_ | refine gY rfl rfl ?_ | refine gN rfl rfl ?_ | refine qT rfl rfl ?_ | refine qF rfl rfl ?_ | refine qF rfl (dF (by omega)) ?_ | refine lT (tl_ixo rfl rfl rfl (Nat.le_of_ble_eq_true rfl)) ?_ | refine lT (tl_ldEC rfl rfl rfl) ?_ | fail)
     rw [← hje, hc1, ← hk4] at hdn
     exact again (m' := 1) (by decide) (w_canonM 60 [] [5, 42, 43] hp rfl rfl rfl rfl ⟨mapI_froz _, trivial⟩) ⟨2, by decide, rfl, rfl, by rw [hdn]; rfl⟩
   ·generalize dmA ⟨sy, [t0, t1, t2]⟩ k0 2 = ki at *
    have hib : 2 ^ 2 * (0 + l.length) ≤ 400 := by omega
    have hWl : (ki.1.W.getD 2 []).length ≤ 2 ^ 2 * (0 + l.length) := hbi.wlen 2
    generalize hLe : (ki.1.W.getD 2 []).length = L at *
    obtain ⟨⟨r3, R3, Q3⟩, hk3⟩ : ∃ q, q = ki := ⟨_, rfl⟩
    rw [← hk3] at l3 l4
    rw [show (trC ⟨sy, [t0, t1, t2]⟩ ki.1 ki.2.1 ki.2.2) = trC ⟨sy, [t0, t1, t2]⟩ r3 R3 Q3 by rw [← hk3]]
    simp only at l3 l4
    obtain ⟨_, _, _, rfl⟩ := len3 l3
    obtain ⟨_, _, _, rfl⟩ := len3 l4
    repeat' (first | refine goR rfl ?_ | refine goS rfl ?_ | refine tret1 rfl ?_ | refine tretN rfl ?_ | refine gY rfl rfl ?_ | refine gN rfl rfl ?_ | refine qT rfl rfl ?_ | refine qF rfl rfl ?_ | fail)
    refine loopS (invO3 hbi 3 2 L) L (w_canonM 60 [] [5, 8, 42, 43] hp rfl rfl rfl rfl ⟨mapI_froz _, trivial⟩) ⟨0, by omega, rfl, rfl, by rw [List.replicate_zero, show tmL _ ki [] = ki from rfl, ← hk3]; rfl⟩ ?_
    clear hk3 l3 l4
    rintro m3 env σ ⟨j, hj, rfl, rfl, rfl⟩
    have hVj := hbi.run (List.replicate j (((2 : Nat) : Int), true))
    rw [List.length_replicate] at hVj
    have hlj := hVj.lens
    have hlf := fun {q} => hbi.left (i := 2) (by show 2 < 3; decide) j (q := q)
    rw [hLe] at hlf
    have cd := hdo hVj (by omega) (((2 : Nat) : Int), true)
    have hsn := tmL_snoc ⟨sy, [t0, t1, t2]⟩ ki (List.replicate j (((2 : Nat) : Int), true)) (((2 : Nat) : Int), true)
    rw [← List.replicate_succ'] at hsn
    have hV2 := (hVj.step (((2 : Nat) : Int), true)).lens
    rw [← hsn] at cd hV2
    clear hVj hsn
    generalize hc2 : tmL ⟨sy, [t0, t1, t2]⟩ ki (List.replicate (j + 1) (((2 : Nat) : Int), true)) = k2 at *
    generalize hc1 : tmL ⟨sy, [t0, t1, t2]⟩ ki (List.replicate j (((2 : Nat) : Int), true)) = k1 at *
    obtain ⟨⟨r4, R4, Q4⟩, hk4⟩ : ∃ q, q = k1 := ⟨_, rfl⟩
    obtain ⟨r5, R5, Q5⟩ := k2
    rw [← hk4] at cd hlj hlf
    rw [show (trC ⟨sy, [t0, t1, t2]⟩ k1.1 k1.2.1 k1.2.2) = trC ⟨sy, [t0, t1, t2]⟩ r4 R4 Q4 by rw [← hk4]]
    obtain ⟨l5, l6⟩ := hlj
    obtain ⟨l7, l8⟩ := hV2
    simp only at cd l5 l6 l7 l8 hlf
    obtain ⟨_, _, _, rfl⟩ := len3 l5
    obtain ⟨_, _, _, rfl⟩ := len3 l6
    obtain ⟨_, _, _, rfl⟩ := len3 l7
    obtain ⟨_, _, _, rfl⟩ := len3 l8
    have hqn := hlf rfl
    by_cases hjl : j < L
    ·have hgt := hqn
     repeat' (first | refine goR rfl ?_ | refine goS rfl ?_ | refine tret1 rfl ?_ | refine tretN rfl ?_ | refine gY rfl rfl ?_ | refine gN rfl rfl ?_ | refine qT rfl rfl ?_ | refine qF rfl rfl ?_ | refine qT rfl (dT (by omega)) ?_ | refine lT (tl_ixo rfl rfl rfl (Nat.le_of_ble_eq_true rfl)) ?_ | refine lT (tl_ldEC rfl rfl rfl) ?_ | refine tr_mcallXM hP hG (cd) rfl rfl rfl rfl rfl rfl rfl rfl rfl rfl rfl rfl ⟨mapI_froz _, trivial⟩ ⟨mapI_froz _, trivial⟩ ?_ | fail)
     exact again (m' := L - (j + 1)) (by omega) (w_canonM 60 [] [5, 8, 42, 43] hp rfl rfl rfl rfl ⟨mapI_froz _, trivial⟩) ⟨j + 1, hjl, rfl, rfl, by rw [hc2]; rfl⟩
    ·have hje : j = L := by omega
     repeat' (first | refine goR rfl ?_ | refine goS rfl ?_ | refine tret1 rfl ?_ | refine tretN rfl ?_ | refine gY rfl rfl ?_ | refine gN rfl rfl ?_ | refine qT rfl rfl ?_ | refine qF rfl rfl ?_ | refine qF rfl (dF (by omega)) ?_ | refine lT (tl_ixo rfl rfl rfl (Nat.le_of_ble_eq_true rfl)) ?_ | refine lT (tl_ldEC rfl rfl rfl) ?_ | fail)
     rw [← hje, hc1, ← hk4] at hdn
     exact again (m' := 0) (by decide) (w_canonM 60 [] [5, 42, 43] hp rfl rfl rfl rfl ⟨mapI_froz _, trivial⟩) ⟨3, by decide, rfl, rfl, by rw [hdn]; rfl⟩
   ·obtain ⟨⟨r3, R3, Q3⟩, hk3⟩ : ∃ q, q = dmA ⟨sy, [t0, t1, t2]⟩ k0 3 := ⟨_, rfl⟩
    rw [← hk3] at l3 l4
    rw [← hk3]
    simp only at l3 l4
    obtain ⟨_, _, _, rfl⟩ := len3 l3
    obtain ⟨_, _, _, rfl⟩ := len3 l4
    repeat' (first | refine goR rfl ?_ | refine goS rfl ?_ | refine tret1 rfl ?_ | refine tretN rfl ?_ | refine gY rfl rfl ?_ | refine gN rfl rfl ?_ | refine qT rfl rfl ?_ | refine qF rfl rfl ?_ | fail)
    show Fz _ _ (.lst 6 (r3.es.map cEv))
    (repeat' first | exact FzL.nil | refine FzL.cons ?_ ?_ | exact Fz.fr rfl | exact Fz.nil _ | exact Fz.s _ _ _ _ _ _ rfl (lM ..).symm | exact Fz.s _ _ _ _ _ _ rfl rfl | refine Fz.pL rfl ?_ | refine Fz.aggL ?_); first | done | fail
  | cons x b =>
   have hx : l[a.length]? = some x := by rw [e]; exact ix
   simp only [List.length_cons] at hla
   have hlt : decide ((a.length : Int) < ((l.map cPick).length : Int)) = true := dT (by omega)
   have hw1 : IntKind.i64.wrap ((a.length : Int) + 1) = ((a ++ [x]).length : Int) := by rw [w64 (by omega), lA]; rfl
   have cd := hdo hVa (by omega) x
   have hsn := tmL_snoc ⟨sy, [t0, t1, t2]⟩ (tmB ⟨sy, [t0, t1, t2]⟩) a x
   have hV2 := hVa.step x
   obtain ⟨l3, l4⟩ := hV2.lens
   rw [← hsn] at cd l3 l4
   clear hV2 hVa hsn
   generalize hc2 : tmL ⟨sy, [t0, t1, t2]⟩ (tmB ⟨sy, [t0, t1, t2]⟩) (a ++ [x]) = k2 at *
   generalize tmL ⟨sy, [t0, t1, t2]⟩ (tmB ⟨sy, [t0, t1, t2]⟩) a = k1 at *
   obtain ⟨r1, R1, Q1⟩ := k1
   obtain ⟨r2, R2, Q2⟩ := k2
   simp only at cd l1 l2 l3 l4
   obtain ⟨_, _, _, rfl⟩ := len3 l1
   obtain ⟨_, _, _, rfl⟩ := len3 l2
   obtain ⟨_, _, _, rfl⟩ := len3 l3
   obtain ⟨_, _, _, rfl⟩ := len3 l4
   obtain ⟨t, f⟩ := x
   repeat' (first | refine goR rfl ?_ | refine goS rfl ?_ | refine tret1 rfl ?_ | refine tretN rfl ?_ | refine gY rfl rfl ?_ | refine gN rfl rfl ?_ | refine qT rfl rfl ?_ | refine qF rfl rfl ?_ | refine qT rfl hlt ?_ | refine lT (tl_ixm rfl rfl rfl hx) ?_ | refine tr_mcallXM hP hG (cd) rfl rfl rfl rfl rfl rfl rfl rfl rfl rfl rfl rfl ⟨mapI_froz _, trivial⟩ ⟨mapI_froz _, trivial⟩ ?_ | fail)
   refine again (m' := b.length) (Nat.lt_succ_self _) (w_canonM 60 [] [5, 28, 29, 30] hp rfl rfl rfl rfl ⟨mapI_froz _, trivial⟩) ⟨a ++ [(t, f)], b, by rw [e]; simp, rfl, by rw [hw1], by rw [hc2]; rfl⟩

end
end Go.Proofs.YtpeifhiphfpajaaGreatDoor
namespace Go.Proofs.YtpeifhiphfpajaaGreatDoor
set_option maxRecDepth 20000
open Go Go.Proofs.YtpeifhiphfpajaaGreatDoor.V Go.Proofs
theorem sh_ev : shapeOf prog 10000 49 = some [.i .i64, .i .i64, .i .i64, .i .i64, .i .i64, .i .i64] := by kernel_rfl
theorem ag_ev : (prog.underlying 49).map aggD = some true := by kernel_rfl
theorem eg_ev : prog.eqGuardType prog.depth 49 = false := by kernel_rfl
section
attribute [local irreducible] TwS TwR thenT inBlockT retT
variable {G : World → Prop}
theorem sameEvents_spec (l : List Ev) (hl : l.length ≤ 1000000) : Pure prog G 8 [.lst 6 (l.map cEv), .lst 6 (l.map cEv)] (tB true) := by
 have hml : (l.map cEv).length = l.length := lM ..
 refine Pure.at mixedOk F8 rfl fun C hP hG hp => goF ?_; simp only [F8, targEnv, Nat.zero_add, Nat.reduceAdd]
 repeat' (first | refine goR rfl ?_ | refine goS rfl ?_ | refine tret1 rfl ?_ | refine tretN rfl ?_ | refine gY rfl rfl ?_ | refine gN rfl rfl ?_ | refine qT rfl rfl ?_ | refine qF rfl rfl ?_ | ((first | refine gS rfl (fun h => ?_) (fun h => ?_) | refine ts_cond rfl (fun h => ?_) (fun h => ?_)) <;> (try simp only [bs0, beq_iff_eq] at h) <;> try (exfalso; exact h trivial; done)) | fail)
 refine loopS (fun m env σ => ∃ a b, l = a ++ b ∧ m = b.length ∧ env = [(0, .lst 6 (l.map cEv)), (1, .lst 6 (l.map cEv)), (5, tI a.length)] ∧ σ = ⟨[], 0⟩) l.length (w_sub [0, 1, 5] rfl) ⟨[], l, rfl, rfl, rfl, rfl⟩ ?_
 rintro m env σ ⟨a, b, e, rfl, rfl, rfl⟩
 have hla : l.length = a.length + b.length := by rw [e, lA]
 cases b with
 | nil =>
  rw [List.length_nil] at hla
  repeat' (first | refine goR rfl ?_ | refine goS rfl ?_ | refine tret1 rfl ?_ | refine tretN rfl ?_ | refine gY rfl rfl ?_ | refine gN rfl rfl ?_ | refine qT rfl rfl ?_ | refine qF rfl rfl ?_ | refine qF rfl (dF (by omega)) ?_ | fail)
  exact .fr rfl
 | cons x b =>
  have hx : l[a.length]? = some x := by rw [e]; exact ix
  simp only [List.length_cons] at hla
  have hw1 : IntKind.i64.wrap ((a.length : Int) + 1) = ((a ++ [x]).length : Int) := by rw [w64 (by omega), lA]; rfl
  repeat' (first | refine goR rfl ?_ | refine goS rfl ?_ | refine tret1 rfl ?_ | refine tretN rfl ?_ | refine gY rfl rfl ?_ | refine gN rfl rfl ?_ | refine qT rfl rfl ?_ | refine qF rfl rfl ?_ | refine qT rfl (dT (by omega)) ?_ | refine lT (tl_ixm rfl rfl rfl hx) ?_ | refine lT (tl_neT (by rw [hP]; exact sh_ev) (by rw [hP]; exact ag_ev) (by rw [hP]; exact eg_ev) rfl rfl rfl rfl rfl) ?_ | fail)
  refine again (m' := b.length) (Nat.lt_succ_self _) (w_sub [0, 1, 5] rfl) ⟨a ++ [x], b, by rw [e]; simp, rfl, by rw [hw1], rfl⟩
end
end Go.Proofs.YtpeifhiphfpajaaGreatDoor
namespace Go.Proofs.YtpeifhiphfpajaaGreatDoor
set_option maxRecDepth 20000
open Go Go.Proofs.YtpeifhiphfpajaaGreatDoor.V Go.Proofs
def pT : Prg := ⟨[⟨bs [120], 1, []⟩], [[mkI 1 false 0 ⟨3, 0, 0, 0⟩ ⟨2, 0, 0, 1⟩ (bs []), mkI 1 false 0 ⟨1, 0, 0, 0⟩ ⟨3, 0, 0, 0⟩ (bs []), hltI]]⟩
theorem pT_ok : checkC pT = 0 := by kernel_rfl
theorem pT_okP : okP pT := by
 refine okP_small (by decide) ?_ (by decide) ?_
 ·intro s hs; simp only [pT, List.mem_singleton] at hs; subst hs; decide
 ·intro t ht
  simp only [pT, List.mem_singleton] at ht
  subst ht
  refine ⟨by decide, by decide, ?_⟩
  intro i hi
  simp only [List.mem_cons, List.not_mem_nil, or_false] at hi
  rcases hi with rfl | rfl | rfl <;> exact ⟨by decide, by decide, fun l hl => by cases hl⟩
theorem pT_nums : numsOk pT := by
 intro l hl i hi
 simp only [pT, List.mem_singleton] at hl
 subst hl
 simp only [List.mem_cons, List.not_mem_nil, or_false] at hi
 rcases hi with rfl | rfl | rfl <;> (unfold inR; decide)
theorem pT_mem : ∀ v ∈ startF pT.syms, inR v := fun v hv => by
 have : v ∈ [(0 : Int)] := hv
 rw [List.mem_singleton.1 this]; unfold inR; decide
def kR : List Pk := [(0, false), (0, false)]
def eR : List Ev := [⟨0, 0, 3, 0, -1, 0⟩, ⟨0, 1, 2, 0, 0, -1⟩]
theorem eR_ok : (trailR pT kR).es = eR := by kernel_rfl
section
attribute [local irreducible] TwS TwR thenT inBlockT retT nextW localW loadedW swapW Rg.push Rg.pop
set_option maxHeartbeats 20000000 in
theorem aliveR_spec : Pure prog Tabs 11 [] (tB true) := by
 have hq := start_q (p := pT) pT_mem
 have c1 := trailOf_spec pT pT_okP pT_ok pT_nums hq (by decide) kR (by decide) (fun h hm x => do_own pT h hm x)
 rw [eR_ok] at c1
 have c2 := sameEvents_spec (G := Tabs) eR (by decide)
 refine Pure.at mixedOk F11 rfl fun C hP hG hp => goF ?_; simp only [F11, targEnv, Nat.zero_add, Nat.reduceAdd]
 repeat' (first | refine goR rfl ?_ | refine goS rfl ?_ | refine tret1 rfl ?_ | refine tretN rfl ?_ | refine gY rfl rfl ?_ | refine gN rfl rfl ?_ | refine qT rfl rfl ?_ | refine qF rfl rfl ?_ | fail)
 refine tr_weak ((w_rowsA (k := 2) (ys := [cIns (mkI 1 false 0 ⟨3, 0, 0, 0⟩ ⟨2, 0, 0, 1⟩ (bs [])), cIns (mkI 1 false 0 ⟨1, 0, 0, 0⟩ ⟨3, 0, 0, 0⟩ (bs [])), cIns hltI]) rfl (by rfl) (by intro h; cases h) (by decide) ?_).trans (w_freeze (d := 14) (k := 2) rfl rfl (.aggL (.cons (.s 3 true rfl) .nil)))) ?_
 ·repeat' (first | exact .nil | refine .cons ?_ ?_ | exact .nil 1 | exact .refl _)
 refine goRn 1 rfl ?_
 refine tr_weak ((w_rowsA (k := 1) (ys := pT.syms.map cSym) rfl (by rfl) (by intro h; cases h) (by decide) ?_).trans ((w_freeze (d := 16) (k := 1) rfl rfl (.aggL (.cons (.s 1 true rfl) (.cons (.refl _) .nil)))).trans (w_freeze (d := 16) (k := 3) rfl rfl (.aggL (.cons (.refl _) (.cons (.s 1 true rfl) .nil)))))) ?_
 ·repeat' (first | exact .nil | refine .cons ?_ ?_ | exact .nil 1 | exact .refl _)
 repeat' (first | refine goR rfl ?_ | refine goS rfl ?_ | refine tret1 rfl ?_ | refine tretN rfl ?_ | refine gY rfl rfl ?_ | refine gN rfl rfl ?_ | refine qT rfl rfl ?_ | refine qF rfl rfl ?_ | refine cA rfl (by rw [hP, hG]; exact c1) rfl ?_ | refine tr_frzS 20 rfl rfl rfl ?_ | refine tr_frzS 24 rfl rfl rfl ?_ | refine cA rfl (by rw [hP, hG]; exact c2) rfl ?_ | fail)
 exact .fr rfl
end
end Go.Proofs.YtpeifhiphfpajaaGreatDoor
