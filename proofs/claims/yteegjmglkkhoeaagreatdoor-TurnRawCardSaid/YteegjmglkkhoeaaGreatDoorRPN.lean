/-
  Walks of functions of the program, and what the laws need of them.
-/
import Derived.Test.YteegjmglkkhoeaaGreatDoorRPL
import Derived.Test.YteegjmglkkhoeaaGreatDoorRPK
set_option linter.all false
set_option linter.unusedSimpArgs false
set_option linter.unusedVariables false
set_option linter.unnecessarySimpa false
namespace Go.Proofs.YteegjmglkkhoeaaGreatDoor
set_option maxRecDepth 20000
open Go Go.Proofs.YteegjmglkkhoeaaGreatDoor.V Go.Proofs
def invK {p : Prg} {m0 : Nat} {s0 : State} {R0 : List Rg} (_ : oQ p m0 (s0, R0)) (l : List Pk) (m : Nat) (env : TEnv) (σ : TS) : Prop :=
 ∃ a b, l = a ++ b ∧ m = b.length ∧ env = [(6, .p 0 0), (7, .s (4 + 2 * R0.length) 2 0 (colL p s0 a).length true), (19, .lst 2 (l.map cPick)), (20, tI (l.map cPick).length), (21, tI a.length)] ∧
  σ = ⟨owM p (runO p (s0, R0) a).1 (runO p (s0, R0) a).2 0 ++ [(4 + 2 * R0.length, .rows 2 ((colL p s0 a).map cPick) 48)], 60⟩
theorem fz_tup {σ : TS} {cs ds : List TV} (h : FzL σ cs ds) : Fz σ (.tup cs) (.tup ds) := .tup _ _ h.1 h.2
section
attribute [local irreducible] TwS TwR thenT inBlockT retT nextW localW loadedW swapW Rg.push Rg.pop owW doO colL colS flushW
set_option maxHeartbeats 20000000 in
theorem collapse_if (p : Prg) (ho : okP p) (hc : checkC p = 0) (hn : numsOk p) (hq : stQ p (start0 p)) (h3 : p.threads.length ≤ 3) (l : List Pk) (hl : l.length ≤ 100000) :
  Pure prog Tabs 8 [.agg (cPrg p), .lst 2 (l.map cPick)] (if (sO p (startT p) l).lock = 0 then .tup [.lst 2 ((colL p (startT p) l).map cPick), tB true] else .tup [.lst 2 [], tB false]) := by
 have hml : (l.map cPick).length = l.length := lM ..
 have hq0 := beginO_ok hq
 have c1 := onew_own p ho hc (start_okS hc) rfl h3
 have hR0 : (beginM p).2.length ≤ 3 := by show (List.replicate _ _).length ≤ 3; rw [List.length_replicate]; exact h3
 have hs0 : startT p = (beginM p).1 := rfl
 rw [hs0]
 clear hs0
 generalize hqe : beginM p = q0 at *
 obtain ⟨s0, R0⟩ := q0
 simp only at c1 hR0 ⊢
 have hsA0 : ∀ a, sO p s0 a = (runO p (s0, R0) a).1 := fun a => (runO_s p a (s0, R0)).symm
 have hrs0 := runO_snoc p (s0, R0)
 rcases rows3 hR0 with rfl | ⟨_, rfl⟩ | ⟨_, _, rfl⟩ | ⟨_, _, _, rfl⟩
 all_goals
  refine Pure.at mixedOk F8 rfl fun C hP hG hp => goF ?_; simp only [F8, targEnv, Nat.zero_add, Nat.reduceAdd]
  repeat' (first | refine goR rfl ?_ | refine goS rfl ?_ | refine tret1 rfl ?_ | refine tretN rfl ?_ | refine gY rfl rfl ?_ | refine gN rfl rfl ?_ | refine qT rfl rfl ?_ | refine qF rfl rfl ?_ | refine tr_mcallX hP hG (c1) rfl rfl rfl rfl rfl rfl rfl rfl rfl rfl rfl rfl ?_ | fail)
  refine loopS (invK hq0 l) l.length ((w_virt (d := 7) 2 48 rfl).trans (w_canon 60 [] [6, 7, 19, 20, 21] hp rfl rfl rfl rfl)) ⟨[], l, rfl, rfl, by rw [colL_nil]; rfl, by rw [colL_nil]; rfl⟩ ?_
  rintro m1 env σ ⟨a, b, e, rfl, rfl, rfl⟩
  have hla : l.length = a.length + b.length := by rw [e, lA]
  have hqa := hq0.run hc hn a
  cases b with
  | nil =>
   rw [List.length_nil] at hla
   rw [List.append_nil] at e
   subst e
   have hlt : decide ((l.length : Int) < ((l.map cPick).length : Int)) = false := dF (by omega)
   have cst := ostate_own (G := Tabs) p _ hqa (by omega) (by have := hqa.memLen hc; omega) h3
   rw [hsA0 l]
   obtain ⟨s1, R1, hq1, hl1, hR1⟩ := hqa.split hq0 h3
   rw [hq1] at cst
   rw [hq1]
   simp only at cst ⊢
   by_cases hL : s1.lock = 0
   all_goals
    rcases rows3 hR1 with rfl | ⟨_, rfl⟩ | ⟨_, _, rfl⟩ | ⟨_, _, _, rfl⟩
   all_goals first | (exfalso; simp at hl1; done) | skip
   all_goals
    repeat' (first | refine goR rfl ?_ | refine goS rfl ?_ | refine tret1 rfl ?_ | refine tretN rfl ?_ | refine gY rfl rfl ?_ | refine gN rfl rfl ?_ | refine qT rfl rfl ?_ | refine qF rfl rfl ?_ | refine qF rfl hlt ?_ | refine tr_mcallX hP hG (cst) rfl rfl rfl rfl rfl rfl rfl rfl rfl rfl rfl rfl ?_ | ((first | refine gS rfl (fun h => ?_) (fun h => ?_) | refine ts_cond rfl (fun h => ?_) (fun h => ?_)) <;> (try simp only [bs0, beq_iff_eq] at h) <;> try (exfalso; omega; done)) | fail)
    all_goals
     first | rw [if_pos hL] | rw [if_neg hL]
     refine fz_tup ?_
     (repeat' first | exact FzL.nil | refine FzL.cons ?_ ?_ | exact Fz.fr rfl | exact Fz.nil _ | exact Fz.s _ _ _ _ _ _ rfl (lM ..).symm | exact Fz.s _ _ _ _ _ _ rfl rfl | refine Fz.pL rfl ?_ | refine Fz.aggL ?_); first | done | fail
  | cons x b =>
   have hx : l[a.length]? = some x := by rw [e]; exact ix
   simp only [List.length_cons] at hla
   have hlt : decide ((a.length : Int) < ((l.map cPick).length : Int)) = true := dT (by omega)
   have hw1 : IntKind.i64.wrap ((a.length : Int) + 1) = ((a ++ [x]).length : Int) := by rw [w64 (by omega), lA]; rfl
   have hes := colL_snoc p a s0 x
   have hel := colL_len p a s0
   have hqa2 := hqa.step hc hn x
   have cdo := odo_own p ho hc _ hqa (by omega) h3 x.1 x.2
   have cst := ostate_own (G := Tabs) p _ hqa (by omega) (by have := hqa.memLen hc; omega) h3
   have cst2 := ostate_own (G := Tabs) p _ hqa2 (by omega) (by have := hqa2.memLen hc; omega) h3
   have hst := hqa.st
   have hth := hqa.thr
   have hbl := hqa.blen
   have hsA := hsA0 a
   have hrs := hrs0 a x
   obtain ⟨s1, R1, hq1, hl1, hR1⟩ := hqa.split hq0 h3
   obtain ⟨s2, R2, hq2, hl2, hR2⟩ := hqa2.split hqa h3
   have hms : (owW p s1 x.1 x.2).1 = s2 := by
    have := congrArg Prod.fst hq2
    rw [hq1] at this
    exact this
   rw [show (x.1, x.2) = x from rfl, hq2] at cdo
   rw [hq2] at hrs cst2
   rw [hq1] at cdo cst hl2 hst hth hsA hbl
   rw [hsA] at hes
   simp only at cdo cst cst2 hl2 hst hth hbl
   rw [hq1]
   clear hsA hqa hqa2 hq1 hq2
   obtain ⟨es, hee⟩ : ∃ es, colL p s0 a = es := ⟨_, rfl⟩
   rw [hee] at hes hel
   rw [hee]
   clear hee
   obtain ⟨t, f⟩ := x
   simp only at cdo hms
   cases hd : (owW p s1 t f).2 with
   | false =>
    rw [hd] at cdo
    rw [colS_no hd, List.append_nil] at hes
    clear hd cst2
    rcases rows33 hR1 hl2 with ⟨rfl, rfl⟩ | ⟨_, _, rfl, rfl⟩ | ⟨_, _, _, _, rfl, rfl⟩ | ⟨_, _, _, _, _, _, rfl, rfl⟩
    all_goals first | (exfalso; simp at hl1; done) | skip
    all_goals
     repeat' (first | refine goR rfl ?_ | refine goS rfl ?_ | refine tret1 rfl ?_ | refine tretN rfl ?_ | refine gY rfl rfl ?_ | refine gN rfl rfl ?_ | refine qT rfl rfl ?_ | refine qF rfl rfl ?_ | refine qT rfl hlt ?_ | refine lT (tl_ixm rfl rfl rfl hx) ?_ | refine tr_mcallX hP hG (cst) rfl rfl rfl rfl rfl rfl rfl rfl rfl rfl rfl rfl ?_ | refine tr_mcallX hP hG (cdo) rfl rfl rfl rfl rfl rfl rfl rfl rfl rfl rfl rfl ?_ | fail)
     refine again (m' := b.length) (Nat.lt_succ_self _) (w_canon 60 [] [6, 7, 19, 20, 21] hp rfl rfl rfl rfl) ⟨a ++ [(t, f)], b, by rw [e]; simp, rfl, ?_, ?_⟩
     ·rw [hw1, hes]; rfl
     ·rw [hrs, hes]; rfl
   | true =>
    obtain ⟨t0, t1⟩ := owW_done hd
    obtain ⟨k, rfl⟩ : ∃ k : Nat, t = k := ⟨t.toNat, by omega⟩
    have hkl : k < s1.thr.length := by omega
    have hy : s1.thr[k]? = some s1.thr[k] := List.getElem?_eq_getElem hkl
    generalize s1.thr[k] = y at hy
    have hyt : (s1.thr.map cThr)[k]? = some (cThr y) := by rw [List.getElem?_map, hy]; rfl
    have hlb : s1.bufs[k]? = some s1.bufs[k] := List.getElem?_eq_getElem (by omega)
    have hbt : bufAt s1 k = s1.bufs[k] := by rw [bufAt, List.getD_eq_getElem?_getD, hlb]; rfl
    have hlm : (s1.bufs.map cBuf)[k]? = some (cBuf s1.bufs[k]) := by rw [List.getElem?_map, hlb]; rfl
    have hkb : k < s1.bufs.length := by omega
    generalize s1.bufs[k] = bl at hlb hlm hbt
    have hlc : (bl.map cEntry).length = bl.length := lM ..
    have hwk : IntKind.i64.wrap ((k : Int) + 1) = (k : Int) + 1 := w64 (by omega)
    rw [hd] at cdo
    cases f with
    | true =>
     rw [colS_f hy hd, hbt] at hes
     have hlk := owW_flock p s1 k
     rw [hms] at hlk
     have hfb := owW_fbuf hy hd
     rw [hbt] at hfb
     clear hd hms
     by_cases hK : s1.lock = (k : Int) + 1 ∧ y.ph = 3 ∧ bl.length = 1
     all_goals
      first | rw [if_pos hK, List.append_nil] at hes | rw [if_neg hK] at hes
      rcases rows33 hR1 hl2 with ⟨rfl, rfl⟩ | ⟨_, _, rfl, rfl⟩ | ⟨_, _, _, _, rfl, rfl⟩ | ⟨_, _, _, _, _, _, rfl, rfl⟩
     all_goals first | (exfalso; simp at hl1; done) | skip
     all_goals
      repeat' (first | refine goR rfl ?_ | refine goS rfl ?_ | refine tret1 rfl ?_ | refine tretN rfl ?_ | refine gY rfl rfl ?_ | refine gN rfl rfl ?_ | refine qT rfl rfl ?_ | refine qF rfl rfl ?_ | refine qT rfl hlt ?_ | refine lT (tl_ixm rfl rfl rfl hx) ?_ | refine tr_mcallX hP hG (cst) rfl rfl rfl rfl rfl rfl rfl rfl rfl rfl rfl rfl ?_ | refine tr_mcallX hP hG (cdo) rfl rfl rfl rfl rfl rfl rfl rfl rfl rfl rfl rfl ?_ | refine tr_mcallX hP hG (cst2) rfl rfl rfl rfl rfl rfl rfl rfl rfl rfl rfl rfl ?_ | refine lT (tl_ixo rfl rfl rfl hkl) ?_ | refine lT (tl_ldE rfl rfl hyt rfl) ?_ | refine lT (tl_ixo (m := k) rfl rfl rfl hkb) ?_ | refine lT (tl_ldE rfl rfl hlm rfl) ?_ | refine tr_append rfl rfl (by rw [lM]) (.inr (.inr ⟨_, _, _, _, rfl, rfl, rfl⟩)) (by simp only [List.length_cons, List.length_nil]; omega) rfl ?_ | ((first | refine gS rfl (fun h => ?_) (fun h => ?_) | refine ts_cond rfl (fun h => ?_) (fun h => ?_)) <;> (try simp only [bs0, beq_iff_eq] at h) <;> try (exfalso; omega; done)) | fail)
      all_goals
       refine again (m' := b.length) (Nat.lt_succ_self _) (w_canon 60 [] [6, 7, 19, 20, 21] hp rfl rfl rfl rfl) ⟨a ++ [((k : Int), true)], b, by rw [e]; simp, rfl, ?_, ?_⟩
       ·first | (rw [hw1, hes]; rfl) | (rw [hw1, hes, @lA _ es]; rfl)
       ·first | (rw [hrs, hes]; rfl) | (rw [hrs, hes, List.map_append]; rfl)
    | false =>
     rw [colS_s hd, hms] at hes
     clear hd hms
     by_cases hK : (s1.lock = (k : Int) + 1 ∨ s2.lock = (k : Int) + 1) ∧ ¬ (s1.lock ≠ 0 ∧ s2.lock = 0)
     all_goals
      first | rw [if_pos hK, List.append_nil] at hes | rw [if_neg hK] at hes
      rcases rows33 hR1 hl2 with ⟨rfl, rfl⟩ | ⟨_, _, rfl, rfl⟩ | ⟨_, _, _, _, rfl, rfl⟩ | ⟨_, _, _, _, _, _, rfl, rfl⟩
     all_goals first | (exfalso; simp at hl1; done) | skip
     all_goals
      repeat' (first | refine goR rfl ?_ | refine goS rfl ?_ | refine tret1 rfl ?_ | refine tretN rfl ?_ | refine gY rfl rfl ?_ | refine gN rfl rfl ?_ | refine qT rfl rfl ?_ | refine qF rfl rfl ?_ | refine qT rfl hlt ?_ | refine lT (tl_ixm rfl rfl rfl hx) ?_ | refine tr_mcallX hP hG (cst) rfl rfl rfl rfl rfl rfl rfl rfl rfl rfl rfl rfl ?_ | refine tr_mcallX hP hG (cdo) rfl rfl rfl rfl rfl rfl rfl rfl rfl rfl rfl rfl ?_ | refine tr_mcallX hP hG (cst2) rfl rfl rfl rfl rfl rfl rfl rfl rfl rfl rfl rfl ?_ | refine tr_append rfl rfl (by rw [lM]) (.inr (.inr ⟨_, _, _, _, rfl, rfl, rfl⟩)) (by simp only [List.length_cons, List.length_nil]; omega) rfl ?_ | ((first | refine gS rfl (fun h => ?_) (fun h => ?_) | refine ts_cond rfl (fun h => ?_) (fun h => ?_)) <;> (try simp only [bs0, beq_iff_eq] at h) <;> try (exfalso; omega; done)) | fail)
      all_goals
       refine again (m' := b.length) (Nat.lt_succ_self _) (w_canon 60 [] [6, 7, 19, 20, 21] hp rfl rfl rfl rfl) ⟨a ++ [((k : Int), false)], b, by rw [e]; simp, rfl, ?_, ?_⟩
       ·first | (rw [hw1, hes]; rfl) | (rw [hw1, hes, @lA _ es]; rfl)
       ·first | (rw [hrs, hes]; rfl) | (rw [hrs, hes, List.map_append]; rfl)
theorem collapse_t (p : Prg) (ho : okP p) (hc : checkC p = 0) (hn : numsOk p) (hq : stQ p (start0 p)) (h3 : p.threads.length ≤ 3) (l : List Pk) (hl : l.length ≤ 100000) (hL : (sO p (startT p) l).lock = 0) :
  Pure prog Tabs 8 [.agg (cPrg p), .lst 2 (l.map cPick)] (.tup [.lst 2 ((colL p (startT p) l).map cPick), tB true]) := by
 have h := collapse_if p ho hc hn hq h3 l hl
 rwa [if_pos hL] at h
theorem collapse_f (p : Prg) (ho : okP p) (hc : checkC p = 0) (hn : numsOk p) (hq : stQ p (start0 p)) (h3 : p.threads.length ≤ 3) (l : List Pk) (hl : l.length ≤ 100000) (hL : (sO p (startT p) l).lock ≠ 0) :
  Pure prog Tabs 8 [.agg (cPrg p), .lst 2 (l.map cPick)] (.tup [.lst 2 [], tB false]) := by
 have h := collapse_if p ho hc hn hq h3 l hl
 rwa [if_neg hL] at h
end
end Go.Proofs.YteegjmglkkhoeaaGreatDoor
