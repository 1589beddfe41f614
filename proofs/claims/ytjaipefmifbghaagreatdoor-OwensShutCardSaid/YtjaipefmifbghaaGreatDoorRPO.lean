/-
  Walks of functions of the program, and what the laws need of them.
-/
import Derived.Test.YtjaipefmifbghaaGreatDoorRPK
import Derived.Test.YtjaipefmifbghaaGreatDoorVI
set_option linter.all false
set_option linter.unusedSimpArgs false
set_option linter.unusedVariables false
set_option linter.unnecessarySimpa false
namespace Go.Proofs.YtjaipefmifbghaaGreatDoor
set_option maxRecDepth 20000
open Go Go.Proofs.YtjaipefmifbghaaGreatDoor.V Go.Proofs
theorem flushW_no {s : State} {t : Nat} (h : (flushW s t).2 = false) : (flushW s t).1 = s := by
 unfold flushW at h ⊢
 split <;> simp_all
theorem stepB_no {p : Prg} {s : State} {t : Nat} {x : Thr} (h : (stepB p s t x).2 = false) : (stepB p s t x).1 = s := by
 unfold stepB stepS at h ⊢
 repeat' split
 all_goals first | rfl | (exfalso; revert h; repeat' split <;> simp_all)
theorem lockedW_no {p : Prg} {s : State} {t : Nat} {x : Thr} (h : (lockedW p s t x).2 = false) : (lockedW p s t x).1 = s := by
 by_cases h0 : x.ph = 0
 ·rw [lockedW_0 h0] at h; cases h
 by_cases h1 : x.ph = 1
 ·rw [lockedW_1 h1] at h; cases h
 by_cases h2 : x.ph = 2 ∧ (swapW p t (zPh x) x.la).2.2 = true
 ·rw [lockedW_2 h2.1 h2.2] at h; cases h
 by_cases hb : bufAt s t = []
 ·rw [lockedW_e h0 h1 h2 hb] at h; cases h
 ·rw [lockedW_w h0 h1 h2 hb]
theorem owW_no {p : Prg} {s : State} {t : Int} {f : Bool} (h : (owW p s t f).2 = false) : (owW p s t f).1 = s := by
 by_cases ht : 0 ≤ t ∧ t < (s.thr.length : Int)
 ·obtain ⟨k, rfl⟩ : ∃ k : Nat, t = k := ⟨t.toNat, by omega⟩
  have hkl : k < s.thr.length := by omega
  have hx : s.thr[k]? = some s.thr[k] := List.getElem?_eq_getElem hkl
  rw [owW_in hx] at h ⊢
  split
  ·split
   ·rfl
   ·rename_i h1 h2
    rw [if_pos h1, if_neg h2] at h
    exact flushW_no h
  ·split
   ·split
    ·rfl
    ·rename_i h1 h2 h3
     rw [if_neg h1, if_pos h2, if_neg h3] at h
     exact lockedW_no h
   ·rename_i h1 h2
    rw [if_neg h1, if_neg h2] at h
    unfold plainW at h ⊢
    split
    ·rfl
    ·rename_i h3
     rw [if_neg h3] at h
     exact stepB_no h
 ·rw [owW_out ht]
theorem owW_shut {p : Prg} {s : State} {t : Int} {f : Bool} (h : (owW p s t f).2 = true) (h0 : s.lock ≠ 0) (h1 : s.lock ≠ t + 1) : ∃ (k : Nat) (x : Thr), t = k ∧ s.thr[k]? = some x ∧ f = false ∧ (owW p s t f).1.mem = s.mem ∧ (owW p s t f).1.lock = s.lock ∧ (nextW p k x).kind ≠ 2 := by
 by_cases ht : 0 ≤ t ∧ t < (s.thr.length : Int)
 ·obtain ⟨k, rfl⟩ : ∃ k : Nat, t = k := ⟨t.toNat, by omega⟩
  have hkl : k < s.thr.length := by omega
  have hx : s.thr[k]? = some s.thr[k] := List.getElem?_eq_getElem hkl
  generalize s.thr[k] = x at hx
  have hsh : shutB s k = true := dT ⟨h0, h1⟩
  rw [owW_in hx, hsh] at h ⊢
  cases f with
  | true => simp at h
  | false =>
   simp only [Bool.false_eq_true, if_false, if_true] at h ⊢
   by_cases h4 : (nextW p k (zPh x)).kind = 4
   ·rw [if_pos h4] at h; cases h
   ·rw [if_neg h4] at h ⊢
    have hx4 : (nextW p k x).kind ≠ 4 := fun hc => h4 (by rw [next_z hc]; exact hc)
    unfold plainW at h ⊢
    by_cases h2 : (nextW p k x).kind = 2
    ·rw [if_pos ⟨h2, rfl⟩] at h; cases h
    ·rw [if_neg (fun hc => h2 hc.1)] at h ⊢
     refine ⟨k, x, rfl, hx, by simp, ?_, ?_, h2⟩
     ·by_cases h3 : (nextW p k x).kind = 3
      ·rw [stepB_3 h3]
      by_cases h0 : (nextW p k x).kind = 0
      ·rw [stepB_0 h0]
      by_cases h5 : (nextW p k x).kind = 5 ∧ bufAt s k ≠ []
      ·rw [stepB_w (.inr h5.1) h5.2]
      ·rw [stepB_5 h0 h2 h3 hx4 (fun h => Classical.byContradiction fun hc => h5 ⟨h, hc⟩)]
     ·by_cases h3 : (nextW p k x).kind = 3
      ·rw [stepB_3 h3]
      by_cases h0 : (nextW p k x).kind = 0
      ·rw [stepB_0 h0]
      by_cases h5 : (nextW p k x).kind = 5 ∧ bufAt s k ≠ []
      ·rw [stepB_w (.inr h5.1) h5.2]
      ·rw [stepB_5 h0 h2 h3 hx4 (fun h => Classical.byContradiction fun hc => h5 ⟨h, hc⟩)]
 ·rw [owW_out ht] at h; cases h
theorem owW_done {p : Prg} {s : State} {t : Int} {f : Bool} (h : (owW p s t f).2 = true) : 0 ≤ t ∧ t < (s.thr.length : Int) := by
 by_cases ht : 0 ≤ t ∧ t < (s.thr.length : Int)
 ·exact ht
 ·rw [owW_out ht] at h; cases h
def invShut {p : Prg} {m0 : Nat} {s0 : State} {R0 : List Rg} (_ : oQ p m0 (s0, R0)) (row : List (Int × Bool)) (m : Nat) (env : TEnv) (σ : TS) : Prop :=
 ∃ a b, row = a ++ b ∧ m = b.length ∧ env = [(6, .p 0 0), (5, .p (4 + 2 * R0.length) 0), (7, .lst 2 (row.map cPick)), (8, tI a.length)] ∧
  σ = ⟨owM p (runO p (s0, R0) a).1 (runO p (s0, R0) a).2 0 ++ [(4 + 2 * R0.length, .cells (cPrg p) 27)], 60⟩
section
attribute [local irreducible] TwS TwR thenT inBlockT retT nextW localW loadedW swapW Rg.push Rg.pop owW doO
variable {G : World → Prop}
theorem sameCells_spec (a : List Int) : Pure prog G 17 [rwI a, rwI a] (tB true) := by
 rw [← eqI_t a]
 refine Pure.at mixedOk F17 rfl fun C hP hG hp => ?_
 exact same_walk (f := fun n => [tI n]) (g := tI) a a hp (fun _ => rfl) (fun env σ x y h1 h2 => tev_sound (by simp only [tev, h1, h2]; rfl))
set_option maxHeartbeats 20000000 in
theorem owensShut (l : List (List Act)) (hl : ∀ r ∈ l, ∀ a ∈ r, inR a.n) (picks : List Int) : Pure prog Tabs 5 [cActs l, rwI picks] (tB true) := by
 obtain ⟨p, ho, hc, hn, c1, h3, hq, _⟩ := book_sc l hl
 have hth : (p.threads.map cTh).length = p.threads.length := lM ..
 have hq0 := beginO_ok hq
 have c2 := onew_own p ho hc (start_okS hc) rfl h3
 have c3 := aliveO_spec
 have c4 := picks_own (G := Tabs) picks (p.threads.map cTh).length 60 (by omega) (by decide)
 have hsl := picksF_len picks (p.threads.map cTh).length 60
 generalize picksF picks (p.threads.map cTh).length 60 = row at c4 hsl
 have hsm : (row.map cPick).length = row.length := lM ..
 have hR0 : (beginM p).2.length ≤ 3 := by show (List.replicate _ _).length ≤ 3; rw [List.length_replicate]; exact h3
 generalize hqe : beginM p = q0 at *
 obtain ⟨s0, R0⟩ := q0
 rcases rows3 hR0 with rfl | ⟨_, rfl⟩ | ⟨_, _, rfl⟩ | ⟨_, _, _, rfl⟩
 all_goals
  refine Pure.at mixedOk F5 rfl fun C hP hG hp => goF ?_; simp only [F5, targEnv, Nat.zero_add, Nat.reduceAdd]
  repeat' (first | refine goR rfl ?_ | refine goS rfl ?_ | refine tret1 rfl ?_ | refine tretN rfl ?_ | refine gY rfl rfl ?_ | refine gN rfl rfl ?_ | refine qT rfl rfl ?_ | refine qF rfl rfl ?_ | refine cA rfl (by rw [hP]; exact c1 _) rfl ?_ | refine tr_mcallX hP hG (c2) rfl rfl rfl rfl rfl rfl rfl rfl rfl rfl rfl rfl ?_ | refine tr_mcallX hP hG (c4) rfl rfl rfl rfl rfl rfl rfl rfl rfl rfl rfl rfl ?_ | fail)
  refine ts_weak (w_frzS 7 rfl rfl hsm.symm) ?_
  refine loopS (invShut hq0 row) row.length (w_canon 60 [] [6, 5, 7, 8] hp rfl rfl rfl rfl) ⟨[], row, rfl, rfl, rfl, rfl⟩ ?_
  rintro m1 env σ ⟨a, b, e, rfl, rfl, rfl⟩
  have hla : row.length = a.length + b.length := by rw [e, lA]
  have hqa := hq0.run hc hn a
  cases b with
  | nil =>
   rw [List.length_nil] at hla
   have hlt : decide ((a.length : Int) < ((row.map cPick).length : Int)) = false := dF (by omega)
   obtain ⟨s1, R1, hq1, hl1, hR1⟩ := hqa.split hq0 h3
   rw [hq1]
   rcases rows3 hR1 with rfl | ⟨_, rfl⟩ | ⟨_, _, rfl⟩ | ⟨_, _, _, rfl⟩
   all_goals first | (exfalso; simp at hl1; done) | skip
   all_goals
    repeat' (first | refine goR rfl ?_ | refine goS rfl ?_ | refine tret1 rfl ?_ | refine tretN rfl ?_ | refine gY rfl rfl ?_ | refine gN rfl rfl ?_ | refine qT rfl rfl ?_ | refine qF rfl rfl ?_ | refine qF rfl hlt ?_ | refine cA rfl (by rw [hP, hG]; exact c3) rfl ?_ | fail)
    exact .fr rfl
  | cons x b =>
   have hx : row[a.length]? = some x := by rw [e]; exact ix
   simp only [List.length_cons] at hla
   have hlt : decide ((a.length : Int) < ((row.map cPick).length : Int)) = true := dT (by omega)
   have hw1 : IntKind.i64.wrap ((a.length : Int) + 1) = ((a ++ [x]).length : Int) := by rw [w64 (by omega), lA]; rfl
   have hqa2 := hqa.step hc hn x
   have c5 := odo_own p ho hc _ hqa (by omega) h3 x.1 x.2
   have c6 := ostate_own (G := Tabs) p _ hqa (by omega) (by have := hqa.memLen hc; omega) h3
   have c7 := ostate_own (G := Tabs) p _ hqa2 (by omega) (by have := hqa2.memLen hc; omega) h3
   have hok := hqa.okS hc (by omega) (by omega)
   have c8 := sameSt_spec (G := Tabs) _ hok
   have ht1 := hqa.thr
   have ht2 := hqa2.thr
   have hb1 := hqa.blen
   have hb2 := hqa2.blen
   have hm1 := hqa.st.len.trans hqa2.st.len.symm
   obtain ⟨s1, R1, hq1, hl1, hR1⟩ := hqa.split hq0 h3
   obtain ⟨s2, R2, hq2, hl2, hR2⟩ := hqa2.split hqa h3
   have hms : (owW p s1 x.1 x.2).1 = s2 := by
    have := congrArg Prod.fst hq2
    rw [hq1] at this
    exact this
   have hno := owW_no (p := p) (s := s1) (t := x.1) (f := x.2)
   have hshut := owW_shut (p := p) (s := s1) (t := x.1) (f := x.2)
   rw [show (x.1, x.2) = x from rfl, hq2] at c5
   rw [hq2] at c7 ht2 hb2 hm1
   rw [hq1] at c5 c6 c8 hl2 ht1 hb1 hm1
   simp only at c5 c6 c7 c8 hl2 ht1 ht2 hb1 hb2 hm1 hno hshut
   rw [hms] at hno hshut
   rw [hq1]
   have hrn := (runO_snoc p _ a x).trans hq2
   have c9 := sameCells_spec (G := Tabs) s1.mem
   have hdn := owW_done (p := p) (s := s1) (t := x.1) (f := x.2)
   generalize (owW p s1 x.1 x.2).2 = b1 at c5 hno hshut hdn
   obtain ⟨x1, x2⟩ := x
   simp only at hshut c5 hdn
   cases b1 with
   | false =>
    obtain rfl := hno rfl
    rcases rows33 hR1 hl2 with ⟨rfl, rfl⟩ | ⟨_, _, rfl, rfl⟩ | ⟨_, _, _, _, rfl, rfl⟩ | ⟨_, _, _, _, _, _, rfl, rfl⟩
    all_goals first | (exfalso; simp at hl1; done) | skip
    all_goals
     repeat' (first | refine goR rfl ?_ | refine goS rfl ?_ | refine tret1 rfl ?_ | refine tretN rfl ?_ | refine gY rfl rfl ?_ | refine gN rfl rfl ?_ | refine qT rfl rfl ?_ | refine qF rfl rfl ?_ | refine qT rfl hlt ?_ | refine tg_f rfl (ndF (by omega)) ?_ | refine qF rfl (ndF (by omega)) ?_ | refine lT (tl_ixm rfl rfl rfl hx) ?_ | refine tr_mcallX hP hG (c5) rfl rfl rfl rfl rfl rfl rfl rfl rfl rfl rfl rfl ?_ | refine tr_mcallX hP hG (c6) rfl rfl rfl rfl rfl rfl rfl rfl rfl rfl rfl rfl ?_ | refine tr_mcallX hP hG (c7) rfl rfl rfl rfl rfl rfl rfl rfl rfl rfl rfl rfl ?_ | refine tr_callV hP hG (c8) rfl (by (repeat' first | exact FzL.nil | refine FzL.cons ?_ ?_ | exact Fz.fr rfl | exact Fz.nil _ | exact Fz.s _ _ _ _ _ _ rfl (lM ..).symm | exact Fz.s _ _ _ _ _ _ rfl rfl | refine Fz.pL rfl ?_ | refine Fz.aggL ?_); first | done | fail) rfl ?_ | ((first | refine gS rfl (fun h => ?_) (fun h => ?_) | refine ts_cond rfl (fun h => ?_) (fun h => ?_)) <;> (try simp only [bs0, beq_iff_eq] at h) <;> try (exfalso; first | omega | exact h trivial; done)) | fail)
     all_goals refine again (m' := b.length) (Nat.lt_succ_self _) (w_canon 60 [] [6, 5, 7, 8] hp rfl rfl rfl rfl) ⟨a ++ [(_, _)], b, by rw [e, List.append_assoc]; rfl, rfl, by rw [hw1]; rfl, by rw [hrn]; rfl⟩
   | true =>
    have hin := hdn rfl
    have hwx : IntKind.i64.wrap (x1 + 1) = x1 + 1 := w64 (by omega)
    by_cases hsh : s1.lock ≠ 0 ∧ s1.lock ≠ x1 + 1
    ·obtain ⟨k, y, rfl, hy, rfl, hmm, hll, hk2⟩ := hshut rfl hsh.1 hsh.2
     have hkl : k < s1.thr.length := (List.getElem?_eq_some_iff.1 hy).1
     have hwk : IntKind.i64.wrap ((k : Int) + 1) = (k : Int) + 1 := w64 (by omega)
     have hyt : (s1.thr.map cThr)[k]? = some (cThr y) := by rw [List.getElem?_map, hy]; rfl
     have c10 := next_spec2 p ho hc k y
     generalize nextW p k y = d at *
     obtain ⟨dk, da, dv⟩ := d
     simp only at hk2
     obtain ⟨hs0, hs1⟩ := hsh
     rcases rows33 hR1 hl2 with ⟨rfl, rfl⟩ | ⟨_, _, rfl, rfl⟩ | ⟨_, _, _, _, rfl, rfl⟩ | ⟨_, _, _, _, _, _, rfl, rfl⟩
     all_goals first | (exfalso; simp at hl1; done) | skip
     all_goals
      repeat' (first | refine goR rfl ?_ | refine goS rfl ?_ | refine tret1 rfl ?_ | refine tretN rfl ?_ | refine gY rfl rfl ?_ | refine gN rfl rfl ?_ | refine qT rfl rfl ?_ | refine qF rfl rfl ?_ | refine qT rfl hlt ?_ | refine tg_f rfl (ndF (by omega)) ?_ | refine qF rfl (ndF (by omega)) ?_ | refine lT (tl_ixm rfl rfl rfl hx) ?_ | refine tr_mcallX hP hG (c5) rfl rfl rfl rfl rfl rfl rfl rfl rfl rfl rfl rfl ?_ | refine tr_mcallX hP hG (c6) rfl rfl rfl rfl rfl rfl rfl rfl rfl rfl rfl rfl ?_ | refine tr_mcallX hP hG (c7) rfl rfl rfl rfl rfl rfl rfl rfl rfl rfl rfl rfl ?_ | refine tr_callV hP hG (c9) rfl (by rw [hmm]; (repeat' first | exact FzL.nil | refine FzL.cons ?_ ?_ | exact Fz.fr rfl | exact Fz.nil _ | exact Fz.s _ _ _ _ _ _ rfl (lM ..).symm | exact Fz.s _ _ _ _ _ _ rfl rfl | refine Fz.pL rfl ?_ | refine Fz.aggL ?_); first | done | fail) rfl ?_ | refine cA rfl (by rw [hP, hG]; exact c10) rfl ?_ | refine lT (tl_ixo rfl rfl rfl hkl) ?_ | refine lT (tl_ldE rfl rfl hyt rfl) ?_ | ((first | refine gS rfl (fun h => ?_) (fun h => ?_) | refine ts_cond rfl (fun h => ?_) (fun h => ?_)) <;> (try simp only [bs0, beq_iff_eq] at h) <;> try (exfalso; first | omega | exact h trivial; done)) | fail)
      all_goals refine again (m' := b.length) (Nat.lt_succ_self _) (w_canon 60 [] [6, 5, 7, 8] hp rfl rfl rfl rfl) ⟨a ++ [(_, _)], b, by rw [e, List.append_assoc]; rfl, rfl, by rw [hw1]; rfl, by rw [hrn]; rfl⟩
    ·rcases rows33 hR1 hl2 with ⟨rfl, rfl⟩ | ⟨_, _, rfl, rfl⟩ | ⟨_, _, _, _, rfl, rfl⟩ | ⟨_, _, _, _, _, _, rfl, rfl⟩
     all_goals first | (exfalso; simp at hl1; done) | skip
     all_goals
      repeat' (first | refine goR rfl ?_ | refine goS rfl ?_ | refine tret1 rfl ?_ | refine tretN rfl ?_ | refine gY rfl rfl ?_ | refine gN rfl rfl ?_ | refine qT rfl rfl ?_ | refine qF rfl rfl ?_ | refine qT rfl hlt ?_ | refine tg_f rfl (ndF (by omega)) ?_ | refine qF rfl (ndF (by omega)) ?_ | refine lT (tl_ixm rfl rfl rfl hx) ?_ | refine tr_mcallX hP hG (c5) rfl rfl rfl rfl rfl rfl rfl rfl rfl rfl rfl rfl ?_ | refine tr_mcallX hP hG (c6) rfl rfl rfl rfl rfl rfl rfl rfl rfl rfl rfl rfl ?_ | refine tr_mcallX hP hG (c7) rfl rfl rfl rfl rfl rfl rfl rfl rfl rfl rfl rfl ?_ | ((first | refine gS rfl (fun h => ?_) (fun h => ?_) | refine ts_cond rfl (fun h => ?_) (fun h => ?_)) <;> (try simp only [bs0, beq_iff_eq] at h) <;> try (exfalso; first | omega | exact h trivial; done)) | fail)
      all_goals refine again (m' := b.length) (Nat.lt_succ_self _) (w_canon 60 [] [6, 5, 7, 8] hp rfl rfl rfl rfl) ⟨a ++ [(_, _)], b, by rw [e, List.append_assoc]; rfl, rfl, by rw [hw1]; rfl, by rw [hrn]; rfl⟩
end
end Go.Proofs.YtjaipefmifbghaaGreatDoor
