/-
  Walks of functions of the program, and what the laws need of them.
-/
import Derived.Test.YtpeifhiphfpajaaGreatDoorRPT
import Derived.Test.YtpeifhiphfpajaaGreatDoorVI
set_option linter.all false
set_option linter.unusedSimpArgs false
set_option linter.unusedVariables false
set_option linter.unnecessarySimpa false
namespace Go.Proofs.YtpeifhiphfpajaaGreatDoor
set_option maxRecDepth 20000
open Go Go.Proofs.YtpeifhiphfpajaaGreatDoor.V Go.Proofs
def invX (p : Prg) (l : List Pk) (m : Nat) (env : TEnv) (σ : TS) : Prop :=
 ∃ r k, xQ p l r k m ∧ env = [(1, .lst 2 (l.map cPick)), (2, .p 0 0), (5, .p 1 0), (6, .s 5 6 0 r.es.length true), (7, .s 6 1 0 r.W.length true), (8, .s 7 1 0 r.s.mem.length true), (10, tI r.n), (11, tI k)] ∧ σ = ⟨rT p r, 60⟩
section
attribute [local irreducible] TwS TwR thenT inBlockT retT nextW localW loadedW swapW tsoW stepB flushW
set_option maxHeartbeats 20000000 in
theorem trailRef_spec (p : Prg) (ho : okP p) (hc : checkC p = 0) (hn : numsOk p) (hq : stQ p (start0 p)) (h3 : p.threads.length ≤ 3) (l : List Pk) (hl : l.length ≤ 1000) :
  Pure prog Tabs 10 [.agg (cPrg p), .lst 2 (l.map cPick)] (.lst 6 ((trailR p l).es.map cEv)) := by
 have hml : (l.map cPick).length = l.length := lM ..
 have hq0 := beginM_ok hq
 obtain ⟨k1, k2, k3, _⟩ := check_syms hc
 have c1 := check_spec2 p ho
 rw [hc] at c1
 have c2 := beginT_own (G := Tabs) p k1 k2 k3
 have hml2 : (startT p).mem.length ≤ 100000 := by
  have := start_len p.syms k3
  show (startF p.syms).length ≤ _
  omega
 have htl : (p.threads.map cTh).length = p.threads.length := lM ..
 refine Pure.at mixedOk F10 rfl fun C hP hG hp => goF ?_; simp only [F10, targEnv, Nat.zero_add, Nat.reduceAdd]
 repeat' (first | refine goR rfl ?_ | refine goS rfl ?_ | refine tret1 rfl ?_ | refine tretN rfl ?_ | refine gY rfl rfl ?_ | refine gN rfl rfl ?_ | refine qT rfl rfl ?_ | refine qF rfl rfl ?_ | refine cA rfl (by rw [hP, hG]; exact c1) rfl ?_ | refine tr_mcallX hP hG (c2) rfl rfl rfl rfl rfl rfl rfl rfl rfl rfl rfl rfl ?_ | refine tr_makeR (ys := [.lst 2 []]) rfl rfl (.nil1 2) rfl (by omega) ?_ | refine tr_make rfl rfl rfl rfl (by omega) ?_ | ((first | refine gS rfl (fun h => ?_) (fun h => ?_) | refine ts_cond rfl (fun h => ?_) (fun h => ?_)) <;> (try simp only [bs0, beq_iff_eq] at h) <;> try (exfalso; first | omega | exact h rfl; done)) | fail)
 refine loopS (fun m env σ => ∃ i : Nat, i ≤ (startT p).mem.length ∧ m = (startT p).mem.length - i ∧ env = [(1, .lst 2 (l.map cPick)), (2, .p 0 0), (5, .p 1 0), (6, .v (.slice none 0 0)), (7, .s 5 1 0 p.threads.length true), (8, .s 6 1 0 (startT p).mem.length true), (9, tI i)] ∧
  σ = ⟨(0, .cells (cPrg p) 27) :: (rfT (startT p) 1 ++ [(5, .rows 1 (List.replicate p.threads.length [.lst 2 []]) 92), (6, .rows 1 ((wI (startT p).mem.length i).map fun n => [tI n]) 3)]), 60⟩) (startT p).mem.length
  (w_canon 60 [] [1, 2, 5, 6, 7, 8, 9] hp rfl rfl rfl rfl) ⟨0, Nat.zero_le _, rfl, ?_, ?_⟩ ?_
 ·rw [Int.toNat_natCast, Int.toNat_natCast, htl]; rfl
 ·rw [Int.toNat_natCast, Int.toNat_natCast, htl, wI_0, List.map_replicate]; rfl
 rintro m1 env σ ⟨i, hi, rfl, rfl, rfl⟩
 have hMl : ((wI (startT p).mem.length i).map fun n => [tI n]).length = (startT p).mem.length := by
  rw [lM, wI_len hi]
 have hw1 : IntKind.i64.wrap ((i : Int) + 1) = ((i + 1 : Nat) : Int) := by rw [w64 (by omega)]; rfl
 by_cases h2 : i < (startT p).mem.length
 ·have hz : ((wI (startT p).mem.length i).map fun n => [tI n])[i]? = some [tI 0] := by rw [List.getElem?_map, wI_get h2]; rfl
  have hs : ((wI (startT p).mem.length i).map fun n => [tI n]).set i [tI (-1)] = (wI (startT p).mem.length (i + 1)).map fun n => [tI n] := by rw [← wI_set h2, List.map_set]
  repeat' (first | refine goR rfl ?_ | refine goS rfl ?_ | refine tret1 rfl ?_ | refine tretN rfl ?_ | refine gY rfl rfl ?_ | refine gN rfl rfl ?_ | refine qT rfl rfl ?_ | refine qF rfl rfl ?_ | refine qT rfl (dT (by omega)) ?_ | refine lT (tl_ixo (m := i) rfl rfl rfl h2) ?_ | refine tr_storeE rfl rfl hz rfl rfl rfl rfl rfl rfl ?_ | fail)
  exact again (m' := (startT p).mem.length - (i + 1)) (by omega) (w_canon 60 [] [1, 2, 5, 6, 7, 8, 9] hp rfl rfl rfl rfl) ⟨i + 1, by omega, rfl, by rw [hw1], by rw [← hs]; rfl⟩
 ·have hin : i = (startT p).mem.length := by omega
  have hwn : wI (startT p).mem.length i = wroteF (startT p).mem.length [] := by rw [hin]; exact wI_n _
  rw [hwn] at *
  have hcw : List.replicate p.threads.length [TV.lst 2 []] = (List.replicate p.threads.length ([] : List (Int × Int))).map cWt := by rw [List.map_replicate]; rfl
  rw [hcw]
  have hrl : (List.replicate p.threads.length ([] : List (Int × Int))).length = p.threads.length := List.length_replicate ..
  repeat' (first | refine goR rfl ?_ | refine goS rfl ?_ | refine tret1 rfl ?_ | refine tretN rfl ?_ | refine gY rfl rfl ?_ | refine gN rfl rfl ?_ | refine qT rfl rfl ?_ | refine qF rfl rfl ?_ | refine qF rfl (dF (by omega)) ?_ | fail)
  refine loopS (invX p l) (2 * l.length) ((w_virt (d := 6) 6 49 rfl).trans (w_canon 60 [] [1, 2, 5, 6, 7, 8, 10, 11] hp rfl rfl rfl rfl)) ⟨beginR p, 0, xQ.zero p l, by rw [show (beginR p).W.length = p.threads.length from hrl]; rfl, rfl⟩ ?_
  clear hwn hcw hrl hin hi h2 hw1 hMl c1 c2 hml2 htl
  rintro m2 env σ ⟨r, k, hX, rfl, rfl⟩
  obtain ⟨q1, q2⟩ := hX.qp hc
  obtain ⟨hst, hbl, hth, hok, hfw, hlk⟩ := hX.facts hc hn hq h3 hl
  have hkm := hX.km
  have hes := hX.es
  have hnn := hX.n
  have hmm := hX.me
  have hWl := q1.wl
  have hw1 : IntKind.i64.wrap ((k : Int) + 1) = ((k + 1 : Nat) : Int) := by rw [w64 (by omega)]; rfl
  have hw2 : IntKind.i64.wrap ((r.n : Int) + 1) = ((r.n + 1 : Nat) : Int) := by rw [w64 (by omega)]; rfl
  have cC := refCopy_own (G := Tabs) r.s hok
  have cT := fun t f => tsoR_own p ho hc r.s hst hbl (by omega) hfw t f
  have hwg : ∀ ad : Nat, ad < r.s.mem.length → ((wroteF r.s.mem.length r.wm).map fun n => [tI n])[ad]? = some [tI ((lkI (ad : Int) r.wm).getD (-1))] := fun ad h => by rw [List.getElem?_map, wroteF_get h]; rfl
  have hwL : ((wroteF r.s.mem.length r.wm).map fun n => [tI n]).length = r.s.mem.length := by rw [lM, wroteF_len]
  have hWm : ∀ j : Nat, j < r.W.length → (r.W.map cWt)[j]? = some (cWt (r.W.getD j [])) := fun j h => by rw [List.getElem?_map, List.getD_eq_getElem?_getD, List.getElem?_eq_getElem h]; rfl
  by_cases hkl : k < l.length
  ·have hx : l[k]? = some l[k] := List.getElem?_eq_getElem hkl
   generalize l[k] = x at hx
   obtain ⟨m', hm', hX'⟩ := hX.step1 hc hx
   obtain ⟨t, f⟩ := x
   have cT := cT t f
   cases hd : (tsoW p r.s t f).2 with
   | false =>
    have hr : trS p r (t, f) = r := trS_noX hd
    have hs : (tsoW p r.s t f).1 = r.s := by rw [← trS_s p r (t, f), hr]
    rw [hr] at hX'
    rw [hd, hs] at cT
    clear q1 q2 hX hwg hWm hfw
    repeat' (first | refine goR rfl ?_ | refine goS rfl ?_ | refine tret1 rfl ?_ | refine tretN rfl ?_ | refine gY rfl rfl ?_ | refine gN rfl rfl ?_ | refine qT rfl rfl ?_ | refine qF rfl rfl ?_ | refine qT rfl (dT (by omega)) ?_ | refine lT (tl_ixm rfl rfl rfl hx) ?_ | (refine tr_mcallX hP hG (cC) rfl rfl rfl rfl rfl rfl rfl rfl rfl rfl rfl rfl ?_; refine tr_frzA 67 0 rfl rfl rfl (lM ..).symm ?_; refine tr_frzA 67 1 rfl rfl rfl (lM ..).symm ?_; refine tr_frzA 67 2 rfl rfl rfl (lM ..).symm ?_) | refine tr_mcallX hP hG (cT) rfl rfl rfl rfl rfl rfl rfl rfl rfl rfl rfl rfl ?_ | fail)
    exact again (m' := m') hm' (w_canon 60 [] [1, 2, 5, 6, 7, 8, 10, 11] hp rfl rfl rfl rfl) ⟨r, k + 1, hX', by rw [hw1], rfl⟩
   | true =>
    have ht : 0 ≤ t ∧ t < (r.s.thr.length : Int) := Classical.byContradiction fun h => by rw [tsoW_out h] at hd; cases hd
    obtain ⟨j, rfl⟩ : ∃ j : Nat, t = j := ⟨t.toNat, by omega⟩
    have hjl : j < r.s.thr.length := by omega
    have hjW : j < r.W.length := by omega
    have hy : r.s.thr[j]? = some r.s.thr[j] := List.getElem?_eq_getElem hjl
    generalize r.s.thr[j] = y at hy
    have hml' : (tsoW p r.s j f).1.mem.length = r.s.mem.length := (tso_len hy f).1
    rw [hd] at cT
    cases f with
    | true =>
     cases hw : r.W.getD j [] with
     | nil => rw [(trS_nil q1 hjl hw).2] at hd; cases hd
     | cons w0 w =>
      obtain ⟨a, n0⟩ := w0
      obtain ⟨b1, b2⟩ := q1.first hw
      obtain ⟨jn, e, rfl, he, hd', hS⟩ := trS_f q1 hjl hw
      obtain ⟨ad, rfl⟩ : ∃ ad : Nat, a = ad := ⟨a.toNat, by omega⟩
      have hal : ad < r.s.mem.length := by omega
      have hWj := hWm j hjW
      rw [hw] at hWj
      have hjn := (List.getElem?_eq_some_iff.1 he).1
      have hem : (r.es.map cEv)[jn]? = some (cEv e) := by rw [List.getElem?_map, he]; rfl
      have hwr := hwg ad hal
      have hws : ((wroteF r.s.mem.length r.wm).map fun n => [tI n]).set ad [tI (jn : Int)] = (wroteF r.s.mem.length (putI (ad : Int) (jn : Int) r.wm)).map fun n => [tI n] := by rw [← wroteF_set hal, List.map_set]
      rw [hS] at hX'
      clear hS q1 q2 hX hwg hWm hfw he hd' hst hok
      generalize (tsoW p r.s j true).1 = s' at *
      have hq1 : wroteF s'.mem.length (putI (ad : Int) (jn : Int) r.wm) = wroteF r.s.mem.length (putI (ad : Int) (jn : Int) r.wm) := by rw [hml']
      repeat' (first | refine goR rfl ?_ | refine goS rfl ?_ | refine tret1 rfl ?_ | refine tretN rfl ?_ | refine gY rfl rfl ?_ | refine gN rfl rfl ?_ | refine qT rfl rfl ?_ | refine qF rfl rfl ?_ | refine qT rfl (dT (by omega)) ?_ | refine lT (tl_ixm rfl rfl rfl hx) ?_ | (refine tr_mcallX hP hG (cC) rfl rfl rfl rfl rfl rfl rfl rfl rfl rfl rfl rfl ?_; refine tr_frzA 67 0 rfl rfl rfl (lM ..).symm ?_; refine tr_frzA 67 1 rfl rfl rfl (lM ..).symm ?_; refine tr_frzA 67 2 rfl rfl rfl (lM ..).symm ?_) | refine tr_mcallX hP hG (cT) rfl rfl rfl rfl rfl rfl rfl rfl rfl rfl rfl rfl ?_ | refine lT (tl_ixo (m := j) rfl rfl rfl hjW) ?_ | refine lT (tl_ldE rfl rfl hWj rfl) ?_ | refine lT (tl_ixf (m := 0) rfl rfl rfl rfl) ?_ | refine lT (tl_slc (r := w.map cEn) rfl rfl rfl ⟨by decide, by simp only [Option.getD_some, Option.getD_none, lM, List.length_cons]; omega, by simp only [Option.getD_none]; omega⟩ (by simp only [Option.getD_some, Option.getD_none, lM, List.length_cons, List.map_cons]; show List.take _ (List.map cEn w) = _; exact List.take_of_length_le (by simp))) ?_ | refine tr_storeE rfl rfl hWj rfl rfl rfl rfl rfl rfl ?_ | refine lT (tl_ixo (m := ad) rfl rfl rfl hal) ?_ | refine lT (tl_ixo (m := jn) rfl rfl rfl hjn) ?_ | refine tr_storeE rfl rfl hwr rfl rfl rfl rfl rfl rfl ?_ | refine tr_storeE rfl rfl hem rfl rfl rfl rfl rfl rfl ?_ | fail)
      refine again (m' := m') hm' (w_canon 60 [] [1, 2, 5, 6, 7, 8, 10, 11] hp rfl rfl rfl rfl) ⟨⟨s', r.es.set jn { e with place := r.n }, r.W.set j w, putI (ad : Int) (jn : Int) r.wm, r.n + 1⟩, k + 1, hX', ?_, ?_⟩
      ·simp only [List.length_set, hml', hw1, hw2]
      ·simp only [rT, List.map_set, hq1, ← hws]; rfl
    | false =>
     have cn := next_spec2 p ho hc j y
     by_cases k2 : (nextW p j y).kind = 2
     ·have hS := trS_2 hy hd k2
      obtain ⟨h1, h2⟩ := next_addr hc (t := j) (x := y) (.inl k2)
      rw [← hst.len] at h2
      rw [show frmW r j (nextW p j y).addr = (lastA (r.W.getD j []) (nextW p j y).addr).getD ((lkI (nextW p j y).addr r.wm).getD (-1)) from rfl] at hS
      have hWj := hWm j hjW
      have hwb : (r.W.getD j []).length ≤ totW r.W := totW_get
      generalize r.W.getD j [] = w at hS hWj hwb
      generalize nextW p j y = d at *
      obtain ⟨dk, da, dv⟩ := d
      simp only at k2 h1 h2 hS
      subst k2
      obtain ⟨ad, rfl⟩ : ∃ ad : Nat, da = ad := ⟨da.toNat, by omega⟩
      have hal : ad < r.s.mem.length := by omega
      have hwr := hwg ad hal
      have hwl : (w.map cEn).length = w.length := lM ..
      rw [hS] at hX'
      clear hS q1 q2 hX hwg hWm hfw hst hok
      generalize (tsoW p r.s j false).1 = s' at *
      have hq1 : wroteF s'.mem.length r.wm = wroteF r.s.mem.length r.wm := by rw [hml']
      repeat' (first | refine goR rfl ?_ | refine goS rfl ?_ | refine tret1 rfl ?_ | refine tretN rfl ?_ | refine gY rfl rfl ?_ | refine gN rfl rfl ?_ | refine qT rfl rfl ?_ | refine qF rfl rfl ?_ | refine qT rfl (dT (by omega)) ?_ | refine lT (tl_ixm rfl rfl rfl hx) ?_ | (refine tr_mcallX hP hG (cC) rfl rfl rfl rfl rfl rfl rfl rfl rfl rfl rfl rfl ?_; refine tr_frzA 67 0 rfl rfl rfl (lM ..).symm ?_; refine tr_frzA 67 1 rfl rfl rfl (lM ..).symm ?_; refine tr_frzA 67 2 rfl rfl rfl (lM ..).symm ?_) | refine tr_mcallX hP hG (cT) rfl rfl rfl rfl rfl rfl rfl rfl rfl rfl rfl rfl ?_ | refine cA rfl (by rw [hP, hG]; exact cn) rfl ?_ | refine lT (tl_ixm rfl rfl rfl hy) ?_ | refine lT (tl_ixo (m := ad) rfl rfl rfl hal) ?_ | refine lT (tl_ldE rfl rfl hwr rfl) ?_ | refine tr_storeR rfl rfl rfl rfl rfl rfl rfl ?_ | fail)
      refine loopS (fun m env σ => ∃ a b, w = a ++ b ∧ m = b.length ∧ env = [(1, .lst 2 (l.map cPick)), (2, .p 0 0), (5, .p 1 0), (6, .s 5 6 0 r.es.length true), (7, .s 6 1 0 r.W.length true), (8, .s 7 1 0 r.s.mem.length true), (10, tI r.n), (11, tI k), (13, tI j), (16, .p 8 0), (17, .p 9 0), (18, tI a.length)] ∧
       σ = ⟨(0, .cells (cPrg p) 27) :: (rfT s' 1 ++ [(5, .rows 6 (r.es.map cEv) 49), (6, .rows 1 (r.W.map cWt) 92), (7, .rows 1 ((wroteF r.s.mem.length r.wm).map fun n => [tI n]) 3), (8, .cells [tI 2, tI ad, tI dv] 56), (9, .cells (cEv ⟨j, y.pc, 2, ad, (lastA a ad).getD ((lkI ad r.wm).getD (-1)), -1⟩) 49)]), 60⟩) w.length (w_canon 60 [] [1, 2, 5, 6, 7, 8, 10, 11, 13, 16, 17, 18] hp rfl rfl rfl rfl) ⟨[], w, rfl, rfl, rfl, rfl⟩ ?_
      rintro m3 env σ ⟨a, b, e, rfl, rfl, rfl⟩
      have hla : w.length = a.length + b.length := by rw [e, lA]
      cases b with
      | nil =>
       rw [List.length_nil] at hla
       rw [List.append_nil] at e
       subst e
       repeat' (first | refine goR rfl ?_ | refine goS rfl ?_ | refine tret1 rfl ?_ | refine tretN rfl ?_ | refine gY rfl rfl ?_ | refine gN rfl rfl ?_ | refine qT rfl rfl ?_ | refine qF rfl rfl ?_ | refine qF rfl (dF (by omega)) ?_ | refine lT (tl_ixo (m := j) rfl rfl rfl hjW) ?_ | refine lT (tl_ldE rfl rfl hWj rfl) ?_ | refine tr_append rfl rfl (by rw [lM]) (.inr (.inr ⟨_, _, _, _, rfl, rfl, rfl⟩)) (by simp only [List.length_cons, List.length_nil]; omega) rfl ?_ | fail)
       refine again (m' := m') hm' (w_canon 60 [] [1, 2, 5, 6, 7, 8, 10, 11] hp rfl rfl rfl rfl) ⟨⟨s', r.es ++ [⟨j, y.pc, 2, ad, (lastA w ad).getD ((lkI ad r.wm).getD (-1)), -1⟩], r.W, r.wm, r.n⟩, k + 1, hX', ?_, ?_⟩
       ·simp only [lA, hml', hw1]; rfl
       ·simp only [rT, List.map_append, hq1]; rfl
      | cons x0 b =>
       have hx0 : w[a.length]? = some x0 := by rw [e]; exact ix
       simp only [List.length_cons] at hla
       have hw3 : IntKind.i64.wrap ((a.length : Int) + 1) = ((a ++ [x0]).length : Int) := by rw [w64 (by omega), lA]; rfl
       have hsn := lastA_snoc2 a x0 ad ((lkI (ad : Int) r.wm).getD (-1))
       obtain ⟨e1, e2⟩ := x0
       by_cases he1 : e1 = (ad : Int)
       ·rw [if_pos he1] at hsn
        repeat' (first | refine goR rfl ?_ | refine goS rfl ?_ | refine tret1 rfl ?_ | refine tretN rfl ?_ | refine gY rfl rfl ?_ | refine gN rfl rfl ?_ | refine qT rfl rfl ?_ | refine qF rfl rfl ?_ | refine qT rfl (dT (by omega)) ?_ | refine lT (tl_ixo (m := j) rfl rfl rfl hjW) ?_ | refine lT (tl_ldE rfl rfl hWj rfl) ?_ | refine lT (tl_ixm rfl rfl rfl hx0) ?_ | refine qT rfl (dT he1) ?_ | fail)
        exact again (m' := b.length) (Nat.lt_succ_self _) (w_canon 60 [] [1, 2, 5, 6, 7, 8, 10, 11, 13, 16, 17, 18] hp rfl rfl rfl rfl) ⟨a ++ [(e1, e2)], b, by rw [e]; simp, rfl, by rw [hw3], by rw [hsn]; rfl⟩
       ·rw [if_neg he1] at hsn
        repeat' (first | refine goR rfl ?_ | refine goS rfl ?_ | refine tret1 rfl ?_ | refine tretN rfl ?_ | refine gY rfl rfl ?_ | refine gN rfl rfl ?_ | refine qT rfl rfl ?_ | refine qF rfl rfl ?_ | refine qT rfl (dT (by omega)) ?_ | refine lT (tl_ixo (m := j) rfl rfl rfl hjW) ?_ | refine lT (tl_ldE rfl rfl hWj rfl) ?_ | refine lT (tl_ixm rfl rfl rfl hx0) ?_ | refine qF rfl (dF he1) ?_ | fail)
        exact again (m' := b.length) (Nat.lt_succ_self _) (w_canon 60 [] [1, 2, 5, 6, 7, 8, 10, 11, 13, 16, 17, 18] hp rfl rfl rfl rfl) ⟨a ++ [(e1, e2)], b, by rw [e]; simp, rfl, by rw [hw3], by rw [hsn]; rfl⟩
     by_cases k3 : (nextW p j y).kind = 3
     ·have hS := trS_3 hy hd k3
      have hWj := hWm j hjW
      have hwb : (r.W.getD j []).length ≤ totW r.W := totW_get
      generalize r.W.getD j [] = w at hS hWj hwb
      generalize nextW p j y = d at *
      obtain ⟨dk, da, dv⟩ := d
      simp only at k3 hS
      subst k3
      have hwl : (w.map cEn).length = w.length := lM ..
      rw [hS] at hX'
      clear hS q1 q2 hX hwg hWm hfw hst hok k2
      generalize (tsoW p r.s j false).1 = s' at *
      have hq1 : wroteF s'.mem.length r.wm = wroteF r.s.mem.length r.wm := by rw [hml']
      repeat' (first | refine goR rfl ?_ | refine goS rfl ?_ | refine tret1 rfl ?_ | refine tretN rfl ?_ | refine gY rfl rfl ?_ | refine gN rfl rfl ?_ | refine qT rfl rfl ?_ | refine qF rfl rfl ?_ | refine qT rfl (dT (by omega)) ?_ | refine lT (tl_ixm rfl rfl rfl hx) ?_ | (refine tr_mcallX hP hG (cC) rfl rfl rfl rfl rfl rfl rfl rfl rfl rfl rfl rfl ?_; refine tr_frzA 67 0 rfl rfl rfl (lM ..).symm ?_; refine tr_frzA 67 1 rfl rfl rfl (lM ..).symm ?_; refine tr_frzA 67 2 rfl rfl rfl (lM ..).symm ?_) | refine tr_mcallX hP hG (cT) rfl rfl rfl rfl rfl rfl rfl rfl rfl rfl rfl rfl ?_ | refine cA rfl (by rw [hP, hG]; exact cn) rfl ?_ | refine lT (tl_ixm rfl rfl rfl hy) ?_ | refine lT (tl_ixo (m := j) rfl rfl rfl hjW) ?_ | refine lT (tl_ldE rfl rfl hWj rfl) ?_ | refine tr_append0 rfl (.inl rfl) (by omega) rfl ?_ | refine tr_appF rfl rfl rfl (.inr (.inr ⟨_, _, _, _, rfl, rfl, rfl⟩)) (by simp only [List.length_cons, List.length_nil]; omega) rfl ?_ | refine tr_storeE rfl rfl hWj rfl rfl rfl rfl rfl rfl ?_ | refine tr_append rfl rfl (by rw [lM]) (.inr (.inr ⟨_, _, _, _, rfl, rfl, rfl⟩)) (by simp only [List.length_cons, List.length_nil]; omega) rfl ?_ | fail)
      refine again (m' := m') hm' (w_canon 60 [] [1, 2, 5, 6, 7, 8, 10, 11] hp rfl rfl rfl rfl) ⟨⟨s', r.es ++ [⟨j, y.pc, 3, da, -1, -1⟩], r.W.set j (w ++ [(da, (r.es.length : Int))]), r.wm, r.n⟩, k + 1, hX', ?_, ?_⟩
      ·simp only [lA, List.length_set, hml', hw1]; rfl
      ·simp only [rT, List.map_append, List.map_set, cWt, hq1]; rfl
     by_cases k4 : (nextW p j y).kind = 4
     ·have hSf := trS_4f q1 hy hd k4
      have hSt := trS_4t q1 hy hd k4
      have csw := swap_spec2 p ho hc j y (rdM r.s (nextW p j y).addr)
      obtain ⟨h1, h2⟩ := next_addr hc (t := j) (x := y) (.inr (.inr k4))
      rw [← hst.len] at h2
      generalize nextW p j y = d at *
      obtain ⟨dk, da, dv⟩ := d
      simp only at k4 h1 h2 hSf hSt csw
      subst k4
      obtain ⟨ad, rfl⟩ : ∃ ad : Nat, da = ad := ⟨da.toNat, by omega⟩
      have hal : ad < r.s.mem.length := by omega
      have hwr := hwg ad hal
      have hag : r.s.mem[ad]? = some (rdM r.s ad) := by
       rw [rdM, Int.toNat_natCast, List.getD_eq_getElem?_getD, List.getElem?_eq_getElem hal]; rfl
      have hws : ((wroteF r.s.mem.length r.wm).map fun n => [tI n]).set ad [tI (r.es.length : Int)] = (wroteF r.s.mem.length (putI (ad : Int) (r.es.length : Int) r.wm)).map fun n => [tI n] := by rw [← wroteF_set hal, List.map_set]
      generalize rdM r.s (ad : Int) = v at *
      generalize swapW p j y v = sw at *
      obtain ⟨y2, v2, b2⟩ := sw
      simp only at csw hSf hSt
      clear q1 q2 hX hwg hWm hfw hst hok k2 k3
      generalize (tsoW p r.s j false).1 = s' at *
      have hq1 : ∀ wm, wroteF s'.mem.length wm = wroteF r.s.mem.length wm := fun wm => by rw [hml']
      cases b2 with
      | false =>
       rw [hSf rfl] at hX'
       clear hSf hSt
       repeat' (first | refine goR rfl ?_ | refine goS rfl ?_ | refine tret1 rfl ?_ | refine tretN rfl ?_ | refine gY rfl rfl ?_ | refine gN rfl rfl ?_ | refine qT rfl rfl ?_ | refine qF rfl rfl ?_ | refine qT rfl (dT (by omega)) ?_ | refine lT (tl_ixm rfl rfl rfl hx) ?_ | (refine tr_mcallX hP hG (cC) rfl rfl rfl rfl rfl rfl rfl rfl rfl rfl rfl rfl ?_; refine tr_frzA 67 0 rfl rfl rfl (lM ..).symm ?_; refine tr_frzA 67 1 rfl rfl rfl (lM ..).symm ?_; refine tr_frzA 67 2 rfl rfl rfl (lM ..).symm ?_) | refine tr_mcallX hP hG (cT) rfl rfl rfl rfl rfl rfl rfl rfl rfl rfl rfl rfl ?_ | refine cA rfl (by rw [hP, hG]; exact cn) rfl ?_ | refine cA rfl (by rw [hP, hG]; exact csw) rfl ?_ | refine lT (tl_ixm rfl rfl rfl hy) ?_ | refine lT (tl_ixm rfl rfl rfl hag) ?_ | refine lT (tl_ixo (m := ad) rfl rfl rfl hal) ?_ | refine lT (tl_ldE rfl rfl hwr rfl) ?_ | refine tr_storeR rfl rfl rfl rfl rfl rfl rfl ?_ | refine tr_append rfl rfl (by rw [lM]) (.inr (.inr ⟨_, _, _, _, rfl, rfl, rfl⟩)) (by simp only [List.length_cons, List.length_nil]; omega) rfl ?_ | fail)
       refine again (m' := m') hm' (w_canon 60 [] [1, 2, 5, 6, 7, 8, 10, 11] hp rfl rfl rfl rfl) ⟨⟨s', r.es ++ [⟨j, y.pc, 4, ad, (lkI (ad : Int) r.wm).getD (-1), -1⟩], r.W, r.wm, r.n⟩, k + 1, hX', ?_, ?_⟩
       ·simp only [lA, hml', hw1]; rfl
       ·simp only [rT, List.map_append, hq1]; rfl
      | true =>
       rw [hSt rfl] at hX'
       clear hSf hSt
       repeat' (first | refine goR rfl ?_ | refine goS rfl ?_ | refine tret1 rfl ?_ | refine tretN rfl ?_ | refine gY rfl rfl ?_ | refine gN rfl rfl ?_ | refine qT rfl rfl ?_ | refine qF rfl rfl ?_ | refine qT rfl (dT (by omega)) ?_ | refine lT (tl_ixm rfl rfl rfl hx) ?_ | (refine tr_mcallX hP hG (cC) rfl rfl rfl rfl rfl rfl rfl rfl rfl rfl rfl rfl ?_; refine tr_frzA 67 0 rfl rfl rfl (lM ..).symm ?_; refine tr_frzA 67 1 rfl rfl rfl (lM ..).symm ?_; refine tr_frzA 67 2 rfl rfl rfl (lM ..).symm ?_) | refine tr_mcallX hP hG (cT) rfl rfl rfl rfl rfl rfl rfl rfl rfl rfl rfl rfl ?_ | refine cA rfl (by rw [hP, hG]; exact cn) rfl ?_ | refine cA rfl (by rw [hP, hG]; exact csw) rfl ?_ | refine lT (tl_ixm rfl rfl rfl hy) ?_ | refine lT (tl_ixm rfl rfl rfl hag) ?_ | refine lT (tl_ixo (m := ad) rfl rfl rfl hal) ?_ | refine lT (tl_ldE rfl rfl hwr rfl) ?_ | refine tr_storeR rfl rfl rfl rfl rfl rfl rfl ?_ | refine tr_storeE rfl rfl hwr rfl rfl rfl rfl rfl rfl ?_ | refine tr_append rfl rfl (by rw [lM]) (.inr (.inr ⟨_, _, _, _, rfl, rfl, rfl⟩)) (by simp only [List.length_cons, List.length_nil]; omega) rfl ?_ | fail)
       refine again (m' := m') hm' (w_canon 60 [] [1, 2, 5, 6, 7, 8, 10, 11] hp rfl rfl rfl rfl) ⟨⟨s', r.es ++ [⟨j, y.pc, 4, ad, (lkI (ad : Int) r.wm).getD (-1), r.n⟩], r.W, putI (ad : Int) (r.es.length : Int) r.wm, r.n + 1⟩, k + 1, hX', ?_, ?_⟩
       ·simp only [lA, hml', hw1, hw2]; rfl
       ·simp only [rT, List.map_append, hq1, ← hws]; rfl
     ·have hS := trS_o hy hd k2 k3 k4
      generalize nextW p j y = d at *
      obtain ⟨dk, da, dv⟩ := d
      simp only at k2 k3 k4 hS
      rw [hS] at hX'
      clear hS q1 q2 hX hwg hWm hfw hst hok
      generalize (tsoW p r.s j false).1 = s' at *
      have hq1 : ∀ wm, wroteF s'.mem.length wm = wroteF r.s.mem.length wm := fun wm => by rw [hml']
      repeat' (first | refine goR rfl ?_ | refine goS rfl ?_ | refine tret1 rfl ?_ | refine tretN rfl ?_ | refine gY rfl rfl ?_ | refine gN rfl rfl ?_ | refine qT rfl rfl ?_ | refine qF rfl rfl ?_ | refine qT rfl (dT (by omega)) ?_ | refine lT (tl_ixm rfl rfl rfl hx) ?_ | (refine tr_mcallX hP hG (cC) rfl rfl rfl rfl rfl rfl rfl rfl rfl rfl rfl rfl ?_; refine tr_frzA 67 0 rfl rfl rfl (lM ..).symm ?_; refine tr_frzA 67 1 rfl rfl rfl (lM ..).symm ?_; refine tr_frzA 67 2 rfl rfl rfl (lM ..).symm ?_) | refine tr_mcallX hP hG (cT) rfl rfl rfl rfl rfl rfl rfl rfl rfl rfl rfl rfl ?_ | refine cA rfl (by rw [hP, hG]; exact cn) rfl ?_ | refine lT (tl_ixm rfl rfl rfl hy) ?_ | refine qF rfl (dF k2) ?_ | refine qF rfl (dF k3) ?_ | refine qF rfl (dF k4) ?_ | refine tr_append rfl rfl (by rw [lM]) (.inr (.inr ⟨_, _, _, _, rfl, rfl, rfl⟩)) (by simp only [List.length_cons, List.length_nil]; omega) rfl ?_ | fail)
      refine again (m' := m') hm' (w_canon 60 [] [1, 2, 5, 6, 7, 8, 10, 11] hp rfl rfl rfl rfl) ⟨⟨s', r.es ++ [⟨j, y.pc, dk, -1, -1, -1⟩], r.W, r.wm, r.n⟩, k + 1, hX', ?_, ?_⟩
      ·simp only [lA, hml', hw1]; rfl
      ·simp only [rT, List.map_append, hq1]; rfl
  ·have cw := waits_spec (G := Tabs) r.W (by omega)
   rcases waitF_ok r.W 0 with ⟨g1, g2⟩ | ⟨j, g1, g2, g3, g4⟩
   ·rw [g2] at cw
    rw [hX.fin (by omega) g1]
    repeat' (first | refine goR rfl ?_ | refine goS rfl ?_ | refine tret1 rfl ?_ | refine tretN rfl ?_ | refine gY rfl rfl ?_ | refine gN rfl rfl ?_ | refine qT rfl rfl ?_ | refine qF rfl rfl ?_ | refine qF rfl (dF (by omega)) ?_ | refine tr_callV hP hG (cw) rfl (by (repeat' first | exact FzL.nil | refine FzL.cons ?_ ?_ | exact Fz.fr rfl | exact Fz.nil _ | exact Fz.s _ _ _ _ _ _ rfl (lM ..).symm | exact Fz.s _ _ _ _ _ _ rfl rfl | refine Fz.pL rfl ?_ | refine Fz.aggL ?_); first | done | fail) rfl ?_ | fail)
    show Fz _ _ (.lst 6 (r.es.map cEv))
    (repeat' first | exact FzL.nil | refine FzL.cons ?_ ?_ | exact Fz.fr rfl | exact Fz.nil _ | exact Fz.s _ _ _ _ _ _ rfl (lM ..).symm | exact Fz.s _ _ _ _ _ _ rfl rfl | refine Fz.pL rfl ?_ | refine Fz.aggL ?_); first | done | fail
   ·rw [Nat.zero_add] at g4
    rw [g4] at cw
    obtain ⟨m', hm', hX'⟩ := hX.step2 hc (by omega) g3 g2 g1
    have cT := cT j true
    have hjl : j < r.s.thr.length := by omega
    have hjW : j < r.W.length := g3
    have hy : r.s.thr[j]? = some r.s.thr[j] := List.getElem?_eq_getElem hjl
    have hml' : (tsoW p r.s j true).1.mem.length = r.s.mem.length := (tso_len hy true).1
    clear hy g2 g4
    cases hw : r.W.getD j [] with
    | nil => exact absurd hw g1
    | cons w0 w =>
     have hd := (trS_cons q1 hjl (a := w0.1) (j := w0.2) (w := w) hw).1
     rw [hd] at cT
     obtain ⟨a, n0⟩ := w0
     obtain ⟨b1, b2⟩ := q1.first hw
     obtain ⟨jn, e, rfl, he, hd', hS⟩ := trS_f q1 hjl hw
     obtain ⟨ad, rfl⟩ : ∃ ad : Nat, a = ad := ⟨a.toNat, by omega⟩
     have hal : ad < r.s.mem.length := by omega
     have hWj := hWm j hjW
     rw [hw] at hWj
     have hjn := (List.getElem?_eq_some_iff.1 he).1
     have hem : (r.es.map cEv)[jn]? = some (cEv e) := by rw [List.getElem?_map, he]; rfl
     have hwr := hwg ad hal
     have hws : ((wroteF r.s.mem.length r.wm).map fun n => [tI n]).set ad [tI (jn : Int)] = (wroteF r.s.mem.length (putI (ad : Int) (jn : Int) r.wm)).map fun n => [tI n] := by rw [← wroteF_set hal, List.map_set]
     rw [hS] at hX'
     clear hS q1 q2 hX hwg hWm hfw he hd' hst hok
     generalize (tsoW p r.s j true).1 = s' at *
     have hq1 : wroteF s'.mem.length (putI (ad : Int) (jn : Int) r.wm) = wroteF r.s.mem.length (putI (ad : Int) (jn : Int) r.wm) := by rw [hml']
     repeat' (first | refine goR rfl ?_ | refine goS rfl ?_ | refine tret1 rfl ?_ | refine tretN rfl ?_ | refine gY rfl rfl ?_ | refine gN rfl rfl ?_ | refine qT rfl rfl ?_ | refine qF rfl rfl ?_ | refine qF rfl (dF (by omega)) ?_ | refine tr_callV hP hG (cw) rfl (by (repeat' first | exact FzL.nil | refine FzL.cons ?_ ?_ | exact Fz.fr rfl | exact Fz.nil _ | exact Fz.s _ _ _ _ _ _ rfl (lM ..).symm | exact Fz.s _ _ _ _ _ _ rfl rfl | refine Fz.pL rfl ?_ | refine Fz.aggL ?_); first | done | fail) rfl ?_ | (refine tr_mcallX hP hG (cC) rfl rfl rfl rfl rfl rfl rfl rfl rfl rfl rfl rfl ?_; refine tr_frzA 67 0 rfl rfl rfl (lM ..).symm ?_; refine tr_frzA 67 1 rfl rfl rfl (lM ..).symm ?_; refine tr_frzA 67 2 rfl rfl rfl (lM ..).symm ?_) | refine tr_mcallX hP hG (cT) rfl rfl rfl rfl rfl rfl rfl rfl rfl rfl rfl rfl ?_ | refine lT (tl_ixo (m := j) rfl rfl rfl hjW) ?_ | refine lT (tl_ldE rfl rfl hWj rfl) ?_ | refine lT (tl_ixf (m := 0) rfl rfl rfl rfl) ?_ | refine lT (tl_slc (r := w.map cEn) rfl rfl rfl ⟨by decide, by simp only [Option.getD_some, Option.getD_none, lM, List.length_cons]; omega, by simp only [Option.getD_none]; omega⟩ (by simp only [Option.getD_some, Option.getD_none, lM, List.length_cons, List.map_cons]; show List.take _ (List.map cEn w) = _; exact List.take_of_length_le (by simp))) ?_ | refine tr_storeE rfl rfl hWj rfl rfl rfl rfl rfl rfl ?_ | refine lT (tl_ixo (m := ad) rfl rfl rfl hal) ?_ | refine lT (tl_ixo (m := jn) rfl rfl rfl hjn) ?_ | refine tr_storeE rfl rfl hwr rfl rfl rfl rfl rfl rfl ?_ | refine tr_storeE rfl rfl hem rfl rfl rfl rfl rfl rfl ?_ | fail)
     refine again (m' := m') hm' (w_canon 60 [] [1, 2, 5, 6, 7, 8, 10, 11] hp rfl rfl rfl rfl) ⟨⟨s', r.es.set jn { e with place := r.n }, r.W.set j w, putI (ad : Int) (jn : Int) r.wm, r.n + 1⟩, k + 1, hX', ?_, ?_⟩
     ·simp only [List.length_set, hml', hw1, hw2]
     ·simp only [rT, List.map_set, hq1, ← hws]; rfl
end
end Go.Proofs.YtpeifhiphfpajaaGreatDoor
namespace Go.Proofs.YtpeifhiphfpajaaGreatDoor
set_option maxRecDepth 20000
open Go Go.Proofs.YtpeifhiphfpajaaGreatDoor.V Go.Proofs
section
attribute [local irreducible] TwS TwR thenT inBlockT retT nextW localW loadedW swapW Rg.push Rg.pop trailR
set_option maxHeartbeats 20000000 in
theorem trailTells (l : List (List Act)) (hl : ∀ r ∈ l, ∀ a ∈ r, inR a.n) (picks : List Int) : Pure prog Tabs 3 [cActs l, rwI picks] (tB true) := by
 obtain ⟨p, ho, hc, hn, c1, h3, hq, _⟩ := book_sc l hl
 have hth : (p.threads.map cTh).length = p.threads.length := lM ..
 have c4 := picks_own (G := Tabs) picks (p.threads.map cTh).length 60 (by omega) (by decide)
 have hsl := picksF_len picks (p.threads.map cTh).length 60
 generalize picksF picks (p.threads.map cTh).length 60 = row at c4 hsl
 have hsm : (row.map cPick).length = row.length := lM ..
 have c6 := trailOf_spec p ho hc hn hq h3 row (by omega) (fun h hm x => do_own p h hm x)
 have c7 := trailRef_spec p ho hc hn hq h3 row (by omega)
 have hel : (trailR p row).es.length ≤ 1000000 := by
  have h5 := trailR_el p row
  have h2 := trL_es p row (beginR p)
  have h4 : (beginR p).es.length = 0 := rfl
  omega
 have c8 := sameEvents_spec (G := Tabs) (trailR p row).es hel
 have c11 := aliveR_spec
 generalize (trailR p row).es = es at *
 refine Pure.at mixedOk F3 rfl fun C hP hG hp => goF ?_; simp only [F3, targEnv, Nat.zero_add, Nat.reduceAdd]
 repeat' (first | refine goR rfl ?_ | refine goS rfl ?_ | refine tret1 rfl ?_ | refine tretN rfl ?_ | refine gY rfl rfl ?_ | refine gN rfl rfl ?_ | refine qT rfl rfl ?_ | refine qF rfl rfl ?_ | refine cA rfl (by rw [hP]; exact c1 _) rfl ?_ | (refine tr_mcallX hP hG (c4) rfl rfl rfl rfl rfl rfl rfl rfl rfl rfl rfl rfl ?_; refine tr_frzS 13 rfl rfl hsm.symm ?_) | refine cA rfl (by rw [hP, hG]; exact c6) rfl ?_ | refine cA rfl (by rw [hP, hG]; exact c7) rfl ?_ | refine cA rfl (by rw [hP, hG]; exact c8) rfl ?_ | refine cA rfl (by rw [hP, hG]; exact c11) rfl ?_ | fail)
 exact .fr rfl
end
end Go.Proofs.YtpeifhiphfpajaaGreatDoor
