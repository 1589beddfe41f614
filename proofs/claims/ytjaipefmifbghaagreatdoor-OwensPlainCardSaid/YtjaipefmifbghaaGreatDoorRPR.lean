/-
  Walks of functions of the program, and what the laws need of them.
-/
import Derived.Test.YtjaipefmifbghaaGreatDoorRPQ
import Derived.Test.YtjaipefmifbghaaGreatDoorRPK
set_option linter.all false
set_option linter.unusedSimpArgs false
set_option linter.unusedVariables false
set_option linter.unnecessarySimpa false
namespace Go.Proofs.YtjaipefmifbghaaGreatDoor
set_option maxRecDepth 20000
open Go Go.Proofs.YtjaipefmifbghaaGreatDoor.V Go.Proofs
def nopI (ls : List ByteArray) : Ins := ⟨13, false, 0, zOpd, zOpd, bs [], ls⟩
def gP (_ _ _ : Nat) (y : Ins) : Ins := if lockedB y = true then nopI y.labels else y
theorem nop_step0 : decide (insStep syms3 (nopI []) = 0) = true := by kernel_rfl
theorem nop_step (ls : List ByteArray) : insStep syms3 (nopI ls) = 0 := of_decide_eq_true nop_step0
theorem nop_lk (ls : List ByteArray) : lockedB (nopI ls) = false := by simp [lockedB, nopI]
theorem gP_lk (t n i : Nat) (y : Ins) : lockedB (gP t n i y) = false := by
 unfold gP
 split
 ·exact nop_lk _
 ·rename_i h; exact eq_false_of_ne_true h
theorem th_last (many : Nat) (r : List Act) : ∃ b k, (thO many r)[(thO many r).length - 1]? = some (labI b k hltI) := by
 have hl : (thO many r).length - 1 = (rawO (min r.length many) r).length := by
  rw [thO, labS_len, baseO, lA]; simp
 rw [hl]
 refine ⟨tgtB (rawO (min r.length many) r) (rawO (min r.length many) r).length, (rawO (min r.length many) r).length, ?_⟩
 rw [thO, labS_get, baseO, List.getElem?_append_right (Nat.le_refl _), Nat.sub_self]
 rfl
theorem gP_ok {l : List (List Act)} (t : Nat) {x : List Ins} (hx : x ∈ (l.take 3).map (thO 8)) (i : Nat) (y : Ins) (h : x[i]? = some y) : swOk syms3 x.length i y (gP t x.length i y) := by
 have hi := (List.getElem?_eq_some_iff.1 h).1
 unfold gP
 split
 ·rename_i hc
  refine .inr ⟨?_, rfl, nop_step _, by simp [jumpB, nopI], by show 0 ≤ 3; decide, in0⟩
  obtain ⟨r, _, rfl⟩ := List.mem_map.1 hx
  obtain ⟨b, k, hb⟩ := th_last 8 r
  refine Classical.byContradiction fun hn => ?_
  rw [show i = (thO 8 r).length - 1 by omega, hb] at h
  cases h
  have : lockedB (labI b k hltI) = false := by cases b <;> simp [lockedB, labI, hltI, mkI]
  rw [this] at hc
  cases hc
 ·exact .inl rfl
def noLk (p : Prg) : Prop := ∀ l ∈ p.threads, ∀ i ∈ l, lockedB i = false
theorem cur_mem {p : Prg} {t : Int} {x : Thr} {i : Ins} (h : curI p t x = some i) : ∃ l ∈ p.threads, i ∈ l := by
 unfold curI at h
 split at h
 ·cases hg : getT p t with
  | none => rw [hg] at h; cases h
  | some l =>
   rw [hg] at h
   have hl : l[x.pc.toNat]? = some i := h
   unfold getT at hg
   split at hg
   ·exact ⟨l, List.mem_of_getElem? hg, List.mem_of_getElem? hl⟩
   ·cases hg
 ·cases h
theorem noLk.kind {p : Prg} (hN : noLk p) (t : Int) (x : Thr) : (nextW p t x).kind ≠ 4 := by
 intro h
 unfold nextW at h
 cases hc : curI p t x with
 | none => rw [hc] at h; simp at h
 | some i =>
  obtain ⟨l, hl, hi⟩ := cur_mem hc
  have hk := hN l hl i hi
  rw [hc] at h
  simp only at h
  split at h
  ·unfold stepW at h
   split at h
   ·split at h
    ·simp at h
    ·split at h
     ·simp at h
     ·rw [hk] at h
      simp only [Bool.false_eq_true, if_false] at h
      split at h <;> simp at h
   ·split at h <;> simp at h
  ·simp at h
theorem shut0 {s : State} (h : s.lock = 0) (t : Nat) : shutB s t = false := by
 unfold shutB; rw [h]; simp
theorem owW_tso {p : Prg} (hN : noLk p) {s : State} (h0 : s.lock = 0) (R : List Rg) (t : Int) (f : Bool) : owW p s t f = tsoW p s t f ∧ doO p s R t f = doR p s R t f := by
 by_cases ht : 0 ≤ t ∧ t < (s.thr.length : Int)
 ·obtain ⟨k, rfl⟩ : ∃ k : Nat, t = k := ⟨t.toNat, by omega⟩
  have hkl : k < s.thr.length := by omega
  have hx : s.thr[k]? = some s.thr[k] := List.getElem?_eq_getElem hkl
  rw [owW_in hx, doO_in hx, shut0 h0]
  cases f with
  | true => exact ⟨(tsoW_f hkl).symm, rfl⟩
  | false =>
   simp only [Bool.false_eq_true, if_false]
   rw [if_neg (hN.kind _ _), if_neg (hN.kind _ _), plainW_f]
   exact ⟨(tsoW_s hx).symm, rfl⟩
 ·rw [owW_out ht, doO_out ht, tsoW_out ht, doR_out ht]
  exact ⟨rfl, rfl⟩
theorem oW_mW {p : Prg} (hN : noLk p) {q : MS} (h0 : q.1.lock = 0) (x : Int × Bool) : oW p q x = mW p q x := by
 obtain ⟨e1, e2⟩ := owW_tso hN h0 q.2 x.1 x.2
 unfold oW mW
 rw [e1, e2]
theorem runO_T {p : Prg} (hc : checkC p = 0) (hn : numsOk p) (hN : noLk p) : ∀ (l : List (Int × Bool)) {m : Nat} {q : MS}, mQ p m q → runO p q l = runT p q l
 | [], _, _, _ => rfl
 | x :: l, m, q, h => by
  show runO p (oW p q x) l = runT p (mW p q x) l
  rw [oW_mW hN h.lock]
  exact runO_T hc hn hN l (h.step hc hn x)
theorem mQ.toO {p : Prg} (hN : noLk p) {m : Nat} {q : MS} (h : mQ p m q) : oQ p m q := ⟨h.st, h.rg, h.thr, ⟨by rw [h.lock]; exact Int.le_refl _, by rw [h.lock]; omega⟩, fun t x _ _ h4 => absurd h4 (hN.kind _ _)⟩
theorem drAO_A {p : Prg} (hc : checkC p = 0) (hn : numsOk p) (hN : noLk p) {m : Nat} {q : MS} (h : mQ p m q) : ∀ i, drAO p q i = drA p q i
 | 0 => rfl
 | i + 1 => by
  show drO p (drAO p q i) i = drT p (drA p q i) i
  rw [drAO_A hc hn hN h i]
  have h1 := drA_ok hc hn h i
  unfold drO drT
  rw [shut0 h1.lock]
  exact runO_T hc hn hN _ h1
theorem swU_noLk {T : List (List Ins)} (h3 : T.length ≤ 3) : noLk ⟨syms3, swU gP 3 0 T⟩ := by
 intro z hz i hi
 obtain ⟨j, x, _, _, rfl⟩ := swU_mem T 0 3 (by omega) z hz
 rw [swF_all] at hi
 obtain ⟨k, hk⟩ := List.getElem?_of_mem hi
 rw [swG_get] at hk
 cases hx : x[k]? with
 | none => rw [hx] at hk; cases hk
 | some y => rw [hx] at hk; cases hk; exact gP_lk _ _ _ _
def invP {T : List (List Ins)} (_ : Mk T) (picks : List Int) (m : Nat) (env : TEnv) (σ : TS) : Prop := ∃ t : Nat, t ≤ T.length ∧ m = T.length - t ∧ env = [(1, rwI picks), (5, .p 0 0), (6, tI t)] ∧ σ = ⟨prM T (swU gP t 0 T), 20⟩
def invP2 {T : List (List Ins)} (_ : Mk T) (picks : List Int) {t : Nat} {x : List Ins} (_ : Mk3 t x) (m : Nat) (env : TEnv) (σ : TS) : Prop := ∃ i : Nat, i ≤ x.length ∧ m = x.length - i ∧ env = [(1, rwI picks), (5, .p 0 0), (6, tI t), (7, tI i)] ∧ σ = ⟨prM T ((swU gP t 0 T).set t (swF (gP t x.length) i x)), 20⟩
def invPP {p : Prg} {m0 : Nat} {s0 : State} {R0 : List Rg} (_ : mQ p m0 (s0, R0)) (row : List (Int × Bool)) (m : Nat) (env : TEnv) (σ : TS) : Prop :=
 ∃ a b, row = a ++ b ∧ m = b.length ∧ env = [(8, .p 0 0), (9, .p (4 + 2 * R0.length) 0), (10, .lst 2 (row.map cPick)), (11, tI a.length)] ∧
  σ = ⟨owM p (runT p (s0, R0) a).1 (runT p (s0, R0) a).2 0 ++ tsM p (runT p (s0, R0) a).1 (runT p (s0, R0) a).2 (4 + 2 * R0.length), 60⟩
theorem invP2_step {t : Nat} {x : List Ins} (_ : Mk3 t x) (hxl : x.length ≤ 30) (hxo : ∀ i ∈ x, i.to.size ≤ 1000000000) (i : Nat) (hle : i ≤ x.length) :
  (i < x.length ∧ decide ((i : Int) < (x.length : Int)) = true ∧ ∃ y, ((swF (gP t x.length) i x).map cIns)[i]? = some (cIns y) ∧ y.to.size ≤ 1000000000000 ∧
   ∃ c, lockedB y = c ∧ (swF (gP t x.length) (i + 1) x).map cIns = bif c then ((swF (gP t x.length) i x).map cIns).set i [tI 13, tB false, tI 0, tI 0, tI 0, tI 0, tI 0, tI 0, tI 0, tI 0, tI 0, tS (bs []), .lst 1 (y.labels.map fun s => [tS s])] else (swF (gP t x.length) i x).map cIns) ∨
  (¬ (i < x.length) ∧ decide ((i : Int) < (x.length : Int)) = false ∧ swF (gP t x.length) x.length x = swF (gP t x.length) i x) := by
 by_cases h : i < x.length
 ·have hy : x[i]? = some x[i] := List.getElem?_eq_getElem h
  refine .inl ⟨h, dT (by omega), x[i], ?_, by have := hxo _ (List.mem_of_getElem? hy); omega, lockedB x[i], rfl, ?_⟩
  ·rw [List.getElem?_map, swF_at hy]; rfl
  ·generalize x[i] = y at hy
   cases hk : lockedB y with
   | true =>
    rw [cond_true, swF_succ hy, List.map_set]
    congr 1
    show cIns (gP t x.length i y) = _
    unfold gP
    rw [if_pos hk]; rfl
   | false =>
    rw [cond_false, swF_skip (J := i) (fun z hz => by
     rw [hy] at hz; cases hz
     unfold gP; rw [hk]; rfl)]
 ·exact .inr ⟨h, dF (by omega), swF_ge (Nat.le_refl _) (by omega)⟩
section
attribute [local irreducible] TwS TwR thenT inBlockT retT nextW localW loadedW swapW Rg.push Rg.pop owW doO tsoW doR thO swF lockedB
variable {G : World → Prop}
set_option maxHeartbeats 20000000 in
theorem owensPlain (l : List (List Act)) (hl : ∀ r ∈ l, ∀ a ∈ r, inR a.n) (picks : List Int) : Pure prog Tabs 7 [cActs l, rwI picks] (tB true) := by
 have c1 := progM_own (G := Tabs) l
 have hT := th_ok l hl
 have hT3 : ((l.take 3).map (thO 8)).length ≤ 3 := by rw [lM, List.length_take]; omega
 obtain ⟨X, hX⟩ : ∃ X, X = swU gP 3 0 ((l.take 3).map (thO 8)) := ⟨_, rfl⟩
 obtain ⟨ho, hc, hn, hq⟩ := sw_book l hl (g := gP) (fun t x ht hx i y hy => gP_ok t hx i y hy) X hX
 have hN : noLk ⟨syms3, X⟩ := by rw [hX]; exact swU_noLk hT3
 have hXT : ((l.take 3).map (thO 8)).map List.length = X.map List.length := by rw [hX]; exact swU_lens ..
 generalize (l.take 3).map (thO 8) = T at *
 have hM : Mk T := trivial
 have h3 : (⟨syms3, X⟩ : Prg).threads.length ≤ 3 := by show X.length ≤ 3; rw [hX, swU_len]; exact hT3
 have hth : ((⟨syms3, X⟩ : Prg).threads.map cTh).length = (⟨syms3, X⟩ : Prg).threads.length := lM ..
 have hwp := fun C env => w_prg (C := C) (env := env) (n := 20) T X hT3 hXT
 generalize hp2 : (⟨syms3, X⟩ : Prg) = p at *
 have hq0 := beginM_ok hq
 have c2 := onew_own p ho hc (start_okS hc) rfl h3
 have c2' := tnew_own p ho hc (start_okS hc) rfl h3
 have c3 := aliveO_spec
 have c4 := picks_own (G := Tabs) picks (p.threads.map cTh).length 60 (by omega) (by decide)
 have hsl := picksF_len picks (p.threads.map cTh).length 60
 generalize picksF picks (p.threads.map cTh).length 60 = row at c4 hsl
 have hsm : (row.map cPick).length = row.length := lM ..
 have hR0 : (beginM p).2.length ≤ 3 := by show (List.replicate _ _).length ≤ 3; rw [List.length_replicate]; exact h3
 have hRT : (beginM p).2.length = T.length := by
  show (List.replicate _ _).length = _
  rw [List.length_replicate, ← hp2]
  show X.length = _
  rw [hX, swU_len]
 generalize hqe : beginM p = q0 at *
 obtain ⟨s0, R0⟩ := q0
 simp only at hRT
 rcases rowsH hT3 hRT with ⟨rfl, rfl⟩ | ⟨_, _, rfl, rfl⟩ | ⟨_, _, _, _, rfl, rfl⟩ | ⟨_, _, _, _, _, _, rfl, rfl⟩
 all_goals
  refine Pure.at mixedOk F7 rfl fun C hP hG hp => goF ?_; simp only [F7, targEnv, Nat.zero_add, Nat.reduceAdd]
  repeat' (first | refine goR rfl ?_ | refine goS rfl ?_ | refine tret1 rfl ?_ | refine tretN rfl ?_ | refine gY rfl rfl ?_ | refine gN rfl rfl ?_ | refine qT rfl rfl ?_ | refine qF rfl rfl ?_ | refine tr_mcallX hP hG (c1) rfl rfl rfl rfl rfl rfl rfl rfl rfl rfl rfl rfl ?_ | fail)
  refine loopS (invP hM picks) _ (w_canon 20 [] [1, 5, 6] hp rfl rfl rfl rfl) ⟨0, Nat.zero_le _, rfl, rfl, rfl⟩ ?_
  rintro m1 env σ ⟨t, ht, rfl, rfl, rfl⟩
  have hte : t = tlM hM ∨ t < tlM hM := by unfold tlM; omega
  rcases hte with hte | hlt
  ·have hXe := mk_all hM hT3 hX
   subst hte
   rw [hXe]
   refine ts_weak (hwp C _) ?_
   have hpl : (p.threads.map cTh).length = tlM hM := by
    rw [lM, ← hp2]
    show X.length = _
    rw [hX, swU_len]
    rfl
   repeat' (first | refine goR rfl ?_ | refine goS rfl ?_ | refine tret1 rfl ?_ | refine tretN rfl ?_ | refine gY rfl rfl ?_ | refine gN rfl rfl ?_ | refine qT rfl rfl ?_ | refine qF rfl rfl ?_ | refine qF rfl (dF (by rw [hpl]; omega)) ?_ | refine tr_mcallX hP hG (c2) rfl rfl rfl rfl rfl rfl rfl rfl rfl rfl rfl rfl ?_ | refine tr_mcallX hP hG (c2') rfl rfl rfl rfl rfl rfl rfl rfl rfl rfl rfl rfl ?_ | refine tr_mcallX hP hG (c4) rfl rfl rfl rfl rfl rfl rfl rfl rfl rfl rfl rfl ?_ | fail)
   refine ts_weak (w_frzS 10 rfl rfl hsm.symm) ?_
   refine loopS (invPP hq0 row) row.length (w_canon 60 [] [8, 9, 10, 11] hp rfl rfl rfl rfl) ⟨[], row, rfl, rfl, rfl, rfl⟩ ?_
   rintro m1 env σ ⟨a, b, e, rfl, rfl, rfl⟩
   have hla : row.length = a.length + b.length := by rw [e, lA]
   have hqa := hq0.run hc hn a
   cases b with
   | nil =>
    rw [List.length_nil] at hla
    have hlt : decide ((a.length : Int) < ((row.map cPick).length : Int)) = false := dF (by omega)
    have c5 := odrain_own p ho hc hn _ (hqa.toO hN) (by omega) h3
    rw [drAO_A hc hn hN hqa] at c5
    have c6 := tdrain_own p ho hc hn _ hqa (by omega) h3
    have hdq := drA_ok hc hn hqa p.threads.length
    have h2i : 2 ^ p.threads.length * (0 + a.length) ≤ 2 ^ 3 * (0 + a.length) := Nat.mul_le_mul_right _ (Nat.pow_le_pow_right (by decide) h3)
    have c7 := ostate_own (G := Tabs) p _ (hdq.toO hN) (by omega) (by have := hdq.memLen hc; omega) h3
    have c7' := tstate_own (G := Tabs) p _ hdq (by omega) (by have := hdq.memLen hc; omega) h3
    have hok := hdq.okS hc (by omega) (by omega)
    have c8 := sameSt_spec (G := Tabs) _ hok
    obtain ⟨s2, R2, hq2, hl2, hR2⟩ := hdq.split hqa h3
    obtain ⟨s1, R1, hq1, hl1, hR1⟩ := hqa.split hq0 h3
    rw [hq2] at c5 c6 c7 c7' c8
    rw [hq1] at c5 c6 hl2
    rw [hq1]
    simp only at c5 c6 c7 c7' c8 hl2
    rcases rows33 hR1 hl2 with ⟨rfl, rfl⟩ | ⟨_, _, rfl, rfl⟩ | ⟨_, _, _, _, rfl, rfl⟩ | ⟨_, _, _, _, _, _, rfl, rfl⟩
    all_goals first | (exfalso; simp at hl1; done) | skip
    all_goals
     repeat' (first | refine goR rfl ?_ | refine goS rfl ?_ | refine tret1 rfl ?_ | refine tretN rfl ?_ | refine gY rfl rfl ?_ | refine gN rfl rfl ?_ | refine qT rfl rfl ?_ | refine qF rfl rfl ?_ | refine qF rfl hlt ?_ | refine tr_mcallX hP hG (c5) rfl rfl rfl rfl rfl rfl rfl rfl rfl rfl rfl rfl ?_ | refine tr_mcallX hP hG (c6) rfl rfl rfl rfl rfl rfl rfl rfl rfl rfl rfl rfl ?_ | refine tr_mcallX hP hG (c7) rfl rfl rfl rfl rfl rfl rfl rfl rfl rfl rfl rfl ?_ | refine tr_mcallX hP hG (c7') rfl rfl rfl rfl rfl rfl rfl rfl rfl rfl rfl rfl ?_ | refine tr_callV hP hG (c8) rfl (by (repeat' first | exact FzL.nil | refine FzL.cons ?_ ?_ | exact Fz.fr rfl | exact Fz.nil _ | exact Fz.s _ _ _ _ _ _ rfl (lM ..).symm | exact Fz.s _ _ _ _ _ _ rfl rfl | refine Fz.pL rfl ?_ | refine Fz.aggL ?_); first | done | fail) rfl ?_ | refine cA rfl (by rw [hP, hG]; exact c3) rfl ?_ | fail)
     exact .fr rfl
   | cons x b =>
    have hx : row[a.length]? = some x := by rw [e]; exact ix
    simp only [List.length_cons] at hla
    have hlt : decide ((a.length : Int) < ((row.map cPick).length : Int)) = true := dT (by omega)
    have hw1 : IntKind.i64.wrap ((a.length : Int) + 1) = ((a ++ [x]).length : Int) := by rw [w64 (by omega), lA]; rfl
    have hqa2 := hqa.step hc hn x
    have c5 := odo_own p ho hc _ (hqa.toO hN) (by omega) h3 x.1 x.2
    rw [(owW_tso hN hqa.lock [] x.1 x.2).1, show ((x.1, x.2) : Int × Bool) = x from rfl, oW_mW hN hqa.lock] at c5
    have c6 := tdo_own p ho hc _ hqa (by omega) h3 x.1 x.2
    have c7 := ostate_own (G := Tabs) p _ (hqa2.toO hN) (by omega) (by have := hqa2.memLen hc; omega) h3
    have c7' := tstate_own (G := Tabs) p _ hqa2 (by omega) (by have := hqa2.memLen hc; omega) h3
    have hok := hqa2.okS hc (by omega) (by omega)
    have c8 := sameSt_spec (G := Tabs) _ hok
    obtain ⟨s1, R1, hq1, hl1, hR1⟩ := hqa.split hq0 h3
    obtain ⟨s2, R2, hq2, hl2, hR2⟩ := hqa2.split hqa h3
    rw [show (x.1, x.2) = x from rfl, hq2] at c6
    rw [hq2] at c5 c7 c7' c8
    rw [hq1] at c5 c6 hl2
    simp only at c5 c6 c7 c7' c8 hl2
    rw [hq1]
    generalize (tsoW p s1 x.1 x.2).2 = b1 at c5 c6
    have hbb : (!(b1 == b1)) = false := by cases b1 <;> rfl
    rcases rows33 hR1 hl2 with ⟨rfl, rfl⟩ | ⟨_, _, rfl, rfl⟩ | ⟨_, _, _, _, rfl, rfl⟩ | ⟨_, _, _, _, _, _, rfl, rfl⟩
    all_goals first | (exfalso; simp at hl1; done) | skip
    all_goals
     repeat' (first | refine goR rfl ?_ | refine goS rfl ?_ | refine tret1 rfl ?_ | refine tretN rfl ?_ | refine gY rfl rfl ?_ | refine gN rfl rfl ?_ | refine qT rfl rfl ?_ | refine qF rfl rfl ?_ | refine qT rfl hlt ?_ | refine lT (tl_ixm rfl rfl rfl hx) ?_ | refine tr_mcallX hP hG (c5) rfl rfl rfl rfl rfl rfl rfl rfl rfl rfl rfl rfl ?_ | refine tr_mcallX hP hG (c6) rfl rfl rfl rfl rfl rfl rfl rfl rfl rfl rfl rfl ?_ | (refine lT (tl_neb (by rw [hP]; exact ut_bool) rfl rfl) ?_; rw [hbb]) | refine tr_mcallX hP hG (c7) rfl rfl rfl rfl rfl rfl rfl rfl rfl rfl rfl rfl ?_ | refine tr_mcallX hP hG (c7') rfl rfl rfl rfl rfl rfl rfl rfl rfl rfl rfl rfl ?_ | refine tr_callV hP hG (c8) rfl (by (repeat' first | exact FzL.nil | refine FzL.cons ?_ ?_ | exact Fz.fr rfl | exact Fz.nil _ | exact Fz.s _ _ _ _ _ _ rfl (lM ..).symm | exact Fz.s _ _ _ _ _ _ rfl rfl | refine Fz.pL rfl ?_ | refine Fz.aggL ?_); first | done | fail) rfl ?_ | fail)
     refine again (m' := b.length) (Nat.lt_succ_self _) (w_canon 60 [] [8, 9, 10, 11] hp rfl rfl rfl rfl) ⟨a ++ [x], b, by rw [e]; simp, rfl, by rw [hw1]; rfl, by rw [runT_snoc, hq2]; rfl⟩
  ·have h4 : t = 0 ∨ t = 1 ∨ t = 2 := by have : tlM hM ≤ 3 := hT3; omega
   obtain ⟨x, hx⟩ := mk_get hM hlt
   have hxl := (hT x (List.mem_of_getElem? hx)).2.2.2
   have hxo := fun i hi => ((hT x (List.mem_of_getElem? hx)).2.1.2 i hi).1
   have hM3 : Mk3 t x := trivial
   rcases h4 with rfl | rfl | rfl
   all_goals first | (exfalso; simp [tlM] at hlt; done) | skip
   all_goals
    cases hx
    repeat' (first | refine goR rfl ?_ | refine goS rfl ?_ | refine tret1 rfl ?_ | refine tretN rfl ?_ | refine gY rfl rfl ?_ | refine gN rfl rfl ?_ | refine qT rfl rfl ?_ | refine qF rfl rfl ?_ | fail)
    refine loopS (invP2 hM picks hM3) _ (w_canon 20 [] [1, 5, 6, 7] hp rfl rfl rfl rfl) ⟨0, Nat.zero_le _, rfl, rfl, by rw [swF_0]; rfl⟩ ?_
    rintro m2 env σ ⟨i, hle, rfl, rfl, rfl⟩
    have hw2 : IntKind.i64.wrap ((i : Int) + 1) = ((i + 1 : Nat) : Int) := by rw [w64 (by omega)]; rfl
    rcases invP2_step hM3 hxl hxo i hle with ⟨hil, hcd, y, hget, hys, c, hc, hrow⟩ | ⟨hil, hcd, hfin⟩
    ·have cl := locked_spec2 y hys
     rw [hc] at cl
     cases c
     all_goals
      simp only [cond_true, cond_false] at hrow
      repeat' (first | refine goR rfl ?_ | refine goS rfl ?_ | refine tret1 rfl ?_ | refine tretN rfl ?_ | refine gY rfl rfl ?_ | refine gN rfl rfl ?_ | refine qT rfl rfl ?_ | refine qF rfl rfl ?_ | refine qT rfl hcd ?_ | refine cA rfl (by rw [hP, hG]; exact cl) rfl ?_ | refine lT (tl_ixo rfl rfl rfl (Nat.le_of_ble_eq_true rfl)) ?_ | refine lT (tl_ldEC rfl rfl rfl) ?_ | refine lT (tl_ixo (m := i) rfl rfl rfl (by omega)) ?_ | refine lT (tl_ldE rfl rfl hget rfl) ?_ | refine tr_storeE rfl rfl hget rfl rfl rfl rfl rfl rfl ?_ | fail)
      refine again ?_ (w_canon 20 [] [1, 5, 6, 7] hp rfl rfl rfl rfl) ⟨i + 1, by omega, rfl, by rw [hw2], ?_⟩
      ·omega
      ·simp only [prM, thsO, swU, List.set_cons_zero, List.set_cons_succ, hrow]; rfl
    ·repeat' (first | refine goR rfl ?_ | refine goS rfl ?_ | refine tret1 rfl ?_ | refine tretN rfl ?_ | refine gY rfl rfl ?_ | refine gN rfl rfl ?_ | refine qT rfl rfl ?_ | refine qF rfl rfl ?_ | refine qF rfl hcd ?_ | refine lT (tl_ixo rfl rfl rfl (Nat.le_of_ble_eq_true rfl)) ?_ | refine lT (tl_ldEC rfl rfl rfl) ?_ | fail)
     refine again ?_ (w_canon 20 [] [1, 5, 6] hp rfl rfl rfl rfl) ⟨_ + 1, hlt, rfl, rfl, ?_⟩
     ·simp
     ·simp only [prM, thsO, swU, List.set_cons_zero, List.set_cons_succ, hfin]; rfl
end
end Go.Proofs.YtjaipefmifbghaaGreatDoor
