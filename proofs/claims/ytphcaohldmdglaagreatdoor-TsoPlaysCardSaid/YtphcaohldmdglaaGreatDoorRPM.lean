/-
  Walks of functions of the program, and what the laws need of them.
-/
import Derived.Test.YtphcaohldmdglaaGreatDoorRPL
import Derived.Test.YtphcaohldmdglaaGreatDoorRPK
set_option linter.all false
set_option linter.unusedSimpArgs false
set_option linter.unusedVariables false
set_option linter.unnecessarySimpa false
namespace Go.Proofs.YtphcaohldmdglaaGreatDoor
set_option maxRecDepth 20000
open Go Go.Proofs.YtphcaohldmdglaaGreatDoor.V Go.Proofs
def invPlays {p : Prg} {m0 : Nat} {s0 : State} {R0 : List Rg} (_ : mQ p m0 (s0, R0)) (row : List (Int × Bool)) (m : Nat) (env : TEnv) (σ : TS) : Prop :=
 ∃ a b, row = a ++ b ∧ m = b.length ∧ env = [(6, .p 0 0), (7, .p (4 + 2 * R0.length) 0), (5, .p (8 + 2 * R0.length) 0), (8, .lst 2 (row.map cPick)), (9, tI a.length)] ∧
  σ = ⟨tsM p (runT p (s0, R0) a).1 (runT p (s0, R0) a).2 0 ++ (rfT (runT p (s0, R0) a).1 (4 + 2 * R0.length) ++ [(8 + 2 * R0.length, .cells (cPrg p) ty_api_Prog)]), 60⟩
section
attribute [local irreducible] TwS TwR thenT inBlockT retT nextW localW loadedW swapW Rg.push Rg.pop tsoW doR
variable {G : World → Prop}
theorem beginT_own (p : Prg) (c1 : p.syms.length ≤ 64) (c2 : p.threads.length ≤ 64) (c3 : ∀ s ∈ p.syms, 1 ≤ s.size ∧ s.size ≤ 64 ∧ (s.init.length : Int) ≤ s.size) : TC prog G n_ref2_Begin [.agg (cPrg p), tI (p.threads.map cTh).length] ⟨[], 0⟩ [] (fun r σ' => r = .agg [.s 0 1 0 (startT p).mem.length true, .s 1 16 0 (startT p).thr.length true, .s 2 1 0 (startT p).bufs.length true, tI 0] ∧
  σ' = ⟨[(0, memT (startT p)), (1, thrT (startT p)), (2, .rows 1 ((startT p).bufs.map cBuf) ty_sl_api_Entry)], 3⟩) := by
 have e2 : (p.threads.map cTh).length = p.threads.length := List.length_map ..
 have c4 := refStart_own (G := G) p c1 c3
 have r1 : (((p.threads.map cTh).length : Nat) : Int).toNat = (startT p).thr.length := by
  rw [Int.toNat_natCast, e2]; exact (List.length_replicate ..).symm
 have r2 : (((p.threads.map cTh).length : Nat) : Int).toNat = (startT p).bufs.length := by
  rw [Int.toNat_natCast, e2]; exact (List.length_replicate ..).symm
 have r3 : List.replicate (startT p).thr.length (cThr zThr) = (startT p).thr.map cThr := by
  show List.replicate (List.replicate _ _).length _ = (List.replicate _ _).map _
  rw [List.length_replicate, List.map_replicate]
 have r4 : List.replicate (startT p).bufs.length (cBuf []) = (startT p).bufs.map cBuf := by
  show List.replicate (List.replicate _ _).length _ = (List.replicate _ _).map _
  rw [List.length_replicate, List.map_replicate]
 refine TC.of mixedOk (fn := f_ref2_Begin) (by kernel_rfl) (by kernel_rfl) ok_ref2_Begin rfl fun C hP hG hp => goF ?_; simp only [fs_ref2_Begin, targEnv, Nat.zero_add, Nat.reduceAdd]
 repeat' (first | refine goR rfl ?_ | refine goS rfl ?_ | refine tret1 rfl ?_ | refine tretN rfl ?_ | refine tr_guard_y rfl rfl ?_ | refine tr_guard_n rfl rfl ?_ | refine ts_cond_t rfl rfl ?_ | refine ts_cond_f rfl rfl ?_ | refine tr_mcallX hP hG (c4) rfl rfl rfl rfl rfl rfl rfl rfl rfl rfl rfl rfl ?_ | (refine tr_makeR (ys := [.lst 2 []]) rfl rfl (.nil1 2) rfl (by omega) ?_; rw [r2]) | (refine tr_make rfl rfl rfl rfl (by omega) ?_; rw [r1]) | fail)
 refine tretX 3 [] rfl hp rfl rfl rfl rfl ⟨rfl, ?_⟩
 rw [← r4]
 show _ = (⟨[_, (1, .rows 16 ((startT p).thr.map cThr) ty_api_Thr), _], 3⟩ : TS)
 rw [← r3]
 rfl
theorem drainR_own (p : Prg) (hc : checkC p = 0) (hn : numsOk p) {m : Nat} (q : MS) (hq : mQ p m q) (hb : m ≤ 10000) (hl3 : p.threads.length ≤ 3) :
  TC prog G n_ref2_Drain [.p 0 0] ⟨rfT q.1 0, 4⟩ [0] (fun v σ' => v = .tup [] ∧ σ' = ⟨rfT (drA p q p.threads.length).1 0, 4⟩) := by
 refine TC.of mixedOk (fn := f_ref2_Drain) (by kernel_rfl) (by kernel_rfl) ok_ref2_Drain rfl fun C hP hG hp => goF ?_; simp only [fs_ref2_Drain, targEnv, Nat.zero_add, Nat.reduceAdd]
 repeat' (first | refine goR rfl ?_ | refine goS rfl ?_ | refine tret1 rfl ?_ | refine tretN rfl ?_ | refine tr_guard_y rfl rfl ?_ | refine tr_guard_n rfl rfl ?_ | refine ts_cond_t rfl rfl ?_ | refine ts_cond_f rfl rfl ?_ | fail)
 refine loopS (fun m env σ => ∃ i, i ≤ p.threads.length ∧ m = p.threads.length - i ∧ env = [(0, .p 0 0), (2, tI i)] ∧ σ = ⟨rfT (drA p q i).1 0, 4⟩) p.threads.length (w_sub [0, 2] rfl) ⟨0, by omega, by omega, rfl, rfl⟩ ?_
 rintro m1 env σ ⟨i, hi, rfl, rfl, rfl⟩
 have hq1 := drA_ok hc hn hq i
 have h2i : 2 ^ i * m ≤ 2 ^ 3 * m := Nat.mul_le_mul_right _ (Nat.pow_le_pow_right (by decide) (by omega))
 have hfi := hq1.bufAt i
 generalize 2 ^ i * m = mi at hq1 h2i hfi
 have hmi : mi ≤ 80000 := by omega
 have hbl := hq1.blen
 have hth := hq1.thr
 by_cases hlt : i < p.threads.length
 ·have hk : i < (drA p q i).1.thr.length := by omega
  have hdr : drA p q (i + 1) = runT p (drA p q i) (List.replicate (bufAt (drA p q i).1 i).length ((i : Int), true)) := rfl
  have hwi : IntKind.i64.wrap ((i : Int) + 1) = ((i + 1 : Nat) : Int) := by rw [w64 (by omega)]; rfl
  generalize drA p q i = q1 at *
  repeat' (first | refine goR rfl ?_ | refine goS rfl ?_ | refine tret1 rfl ?_ | refine tretN rfl ?_ | refine tr_guard_y rfl rfl ?_ | refine tr_guard_n rfl rfl ?_ | refine ts_cond_t rfl rfl ?_ | refine ts_cond_f rfl rfl ?_ | refine ts_cond_t rfl (decide_eq_true (by omega)) ?_ | fail)
  refine loopS (fun m env σ => ∃ j, j ≤ (bufAt q1.1 i).length ∧ m = (bufAt q1.1 i).length - j ∧ env = [(0, .p 0 0), (2, tI i)] ∧ σ = ⟨rfT (runT p q1 (List.replicate j ((i : Int), true))).1 0, 4⟩) (bufAt q1.1 i).length (w_sub [0, 2] rfl) ⟨0, by omega, by omega, rfl, rfl⟩ ?_
  rintro m2 env σ ⟨j, hj, rfl, rfl, rfl⟩
  obtain ⟨f1, f2, f3⟩ := flushes (p := p) i j hk hbl
  have hqj := hq1.run hc hn (List.replicate j ((i : Int), true))
  rw [List.length_replicate] at hqj
  have c := flush_own (G := G) (runT p q1 (List.replicate j ((i : Int), true))).1 i (by omega) (fun l hl => ⟨by have := (hqj.few l hl).1; omega, (hqj.few l hl).2⟩)
  rw [if_pos (by omega), Int.toNat_natCast] at c
  by_cases hjl : j < (bufAt q1.1 i).length
  ·have hnx : runT p q1 (List.replicate (j + 1) ((i : Int), true)) = mW p (runT p q1 (List.replicate j ((i : Int), true))) ((i : Int), true) := by
    rw [List.replicate_succ', runT_snoc]
   have hst : (runT p q1 (List.replicate (j + 1) ((i : Int), true))).1 = (flushW (runT p q1 (List.replicate j ((i : Int), true))).1 i).1 := by
    rw [hnx]
    show (tsoW p _ (i : Int) true).1 = _
    rw [tsoW_f (by rw [f2]; exact hk)]
   have hdone : (flushW (runT p q1 (List.replicate j ((i : Int), true))).1 i).2 = true := by
    cases hbb : bufAt (runT p q1 (List.replicate j ((i : Int), true))).1 i with
    | nil => rw [hbb] at f1; have := congrArg List.length f1; simp at this; omega
    | cons e r => rw [flushW_cons hbb]
   rw [hdone] at c
   generalize (flushW (runT p q1 (List.replicate j ((i : Int), true))).1 i).1 = s3 at c hst
   repeat' (first | refine goR rfl ?_ | refine goS rfl ?_ | refine tret1 rfl ?_ | refine tretN rfl ?_ | refine tr_guard_y rfl rfl ?_ | refine tr_guard_n rfl rfl ?_ | refine ts_cond_t rfl rfl ?_ | refine ts_cond_f rfl rfl ?_ | refine tr_mcallX hP hG (c) rfl rfl rfl rfl rfl rfl rfl rfl rfl rfl rfl rfl ?_ | fail)
   exact again (m' := (bufAt q1.1 i).length - (j + 1)) (by omega) (w_canon 4 [] [0, 2] hp rfl rfl rfl rfl) ⟨j + 1, hjl, rfl, rfl, by rw [hst]; rfl⟩
  ·have hje : j = (bufAt q1.1 i).length := by omega
   have hbn : bufAt (runT p q1 (List.replicate j ((i : Int), true))).1 i = [] := by rw [f1, hje, List.drop_length]
   rw [flushW_nil hbn] at c
   rw [← hje] at hdr
   generalize runT p q1 (List.replicate j ((i : Int), true)) = q3 at *
   repeat' (first | refine goR rfl ?_ | refine goS rfl ?_ | refine tret1 rfl ?_ | refine tretN rfl ?_ | refine tr_guard_y rfl rfl ?_ | refine tr_guard_n rfl rfl ?_ | refine ts_cond_t rfl rfl ?_ | refine ts_cond_f rfl rfl ?_ | refine tr_mcallX hP hG (c) rfl rfl rfl rfl rfl rfl rfl rfl rfl rfl rfl rfl ?_ | fail)
   exact again (m' := p.threads.length - (i + 1)) (by omega) (w_canon 4 [] [0, 2] hp rfl rfl rfl rfl) ⟨i + 1, hlt, rfl, by rw [hwi], by rw [hdr]; rfl⟩
 ·have hie : i = p.threads.length := by omega
  rw [hie] at hbl hth ⊢
  repeat' (first | refine goR rfl ?_ | refine goS rfl ?_ | refine tret1 rfl ?_ | refine tretN rfl ?_ | refine tr_guard_y rfl rfl ?_ | refine tr_guard_n rfl rfl ?_ | refine ts_cond_t rfl rfl ?_ | refine ts_cond_f rfl rfl ?_ | refine ts_cond_f rfl (decide_eq_false (by omega)) ?_ | fail)
  exact twretN rfl (w_sub [0] rfl) ⟨rfl, rfl⟩
set_option maxHeartbeats 20000000 in
theorem tsoPlays (l : List (List Act)) (hl : ∀ r ∈ l, ∀ a ∈ r, inR a.n) (picks : List Int) : Pure prog Tabs n_law_TsoPlays [cActs l, rwI picks] (tB true) := by
 obtain ⟨p, ho, hc, hn, c1, h3, hq, _⟩ := book_sc l hl
 have hth : (p.threads.map cTh).length = p.threads.length := List.length_map ..
 have hq0 := beginM_ok hq
 obtain ⟨k1, k2, k3, _⟩ := check_syms hc
 have c2 := tnew_own p ho hc (start_okS hc) rfl h3
 have c2' := beginT_own (G := Tabs) p k1 k2 k3
 rw [show startT p = (beginM p).1 from rfl] at c2'
 have c3 := alive_spec
 have c4 := picks_own (G := Tabs) picks (p.threads.map cTh).length 60 (by omega) (by decide)
 have hsl := picksF_len picks (p.threads.map cTh).length 60
 generalize picksF picks (p.threads.map cTh).length 60 = row at c4 hsl
 have hsm : (row.map cPick).length = row.length := List.length_map ..
 have hR0 : (beginM p).2.length ≤ 3 := by show (List.replicate _ _).length ≤ 3; rw [List.length_replicate]; exact h3
 have hlk : (beginM p).1.lock = 0 := rfl
 generalize hqe : beginM p = q0 at *
 obtain ⟨s0, R0⟩ := q0
 simp only at c2'
 rcases rows3 hR0 with rfl | ⟨_, rfl⟩ | ⟨_, _, rfl⟩ | ⟨_, _, _, rfl⟩
 all_goals
  refine Pure.of mixedOk (fn := f_law_TsoPlays) (by kernel_rfl) (by kernel_rfl) ok_law_TsoPlays rfl fun C hP hG hp => goF ?_; simp only [fs_law_TsoPlays, targEnv, Nat.zero_add, Nat.reduceAdd]
  repeat' (first | refine goR rfl ?_ | refine goS rfl ?_ | refine tret1 rfl ?_ | refine tretN rfl ?_ | refine tr_guard_y rfl rfl ?_ | refine tr_guard_n rfl rfl ?_ | refine ts_cond_t rfl rfl ?_ | refine ts_cond_f rfl rfl ?_ | refine tr_callA rfl (by rw [hP]; exact c1 _) rfl ?_ | refine tr_mcallX hP hG (c2) rfl rfl rfl rfl rfl rfl rfl rfl rfl rfl rfl rfl ?_ | refine tr_mcallX hP hG (c2') rfl rfl rfl rfl rfl rfl rfl rfl rfl rfl rfl rfl ?_ | refine tr_mcallX hP hG (c4) rfl rfl rfl rfl rfl rfl rfl rfl rfl rfl rfl rfl ?_ | fail)
  refine ts_weak (w_frzS 8 rfl rfl hsm.symm) ?_
  refine loopS (invPlays hq0 row) row.length (w_canon 60 [] [6, 7, 5, 8, 9] hp rfl rfl rfl rfl) ⟨[], row, rfl, rfl, rfl, by rw [show tI (0 : Int) = tI (runT p (s0, _) []).1.lock by exact congrArg tI hlk.symm]; rfl⟩ ?_
  rintro m1 env σ ⟨a, b, e, rfl, rfl, rfl⟩
  have hla : row.length = a.length + b.length := by rw [e, List.length_append]
  have hqa := hq0.run hc hn a
  cases b with
  | nil =>
   rw [List.length_nil] at hla
   have hlt : decide ((a.length : Int) < ((row.map cPick).length : Int)) = false := decide_eq_false (by omega)
   have c5 := tdrain_own p ho hc hn _ hqa (by omega) h3
   have c6 := drainR_own (G := Tabs) p hc hn _ hqa (by omega) h3
   have hdq := drA_ok hc hn hqa p.threads.length
   have h2i : 2 ^ p.threads.length * (0 + a.length) ≤ 2 ^ 3 * (0 + a.length) := Nat.mul_le_mul_right _ (Nat.pow_le_pow_right (by decide) h3)
   have c7 := tstate_own (G := Tabs) p _ hdq (by omega) (by have := hdq.memLen hc; omega) h3
   have hok := hdq.okS hc (by omega) (by omega)
   have c8 := sameSt_spec (G := Tabs) _ hok
   obtain ⟨s2, R2, hq2, hl2, hR2⟩ := hdq.split hqa h3
   obtain ⟨s1, R1, hq1, hl1, hR1⟩ := hqa.split hq0 h3
   rw [hq2] at c5 c6 c7 c8
   rw [hq1] at c5 c6 hl2
   rw [hq1]
   simp only at c5 c6 c7 c8 hl2
   rcases rows33 hR1 hl2 with ⟨rfl, rfl⟩ | ⟨_, _, rfl, rfl⟩ | ⟨_, _, _, _, rfl, rfl⟩ | ⟨_, _, _, _, _, _, rfl, rfl⟩
   all_goals first | (exfalso; simp at hl1; done) | skip
   all_goals
    repeat' (first | refine goR rfl ?_ | refine goS rfl ?_ | refine tret1 rfl ?_ | refine tretN rfl ?_ | refine tr_guard_y rfl rfl ?_ | refine tr_guard_n rfl rfl ?_ | refine ts_cond_t rfl rfl ?_ | refine ts_cond_f rfl rfl ?_ | refine ts_cond_f rfl hlt ?_ | refine tr_mcallX hP hG (c5) rfl rfl rfl rfl rfl rfl rfl rfl rfl rfl rfl rfl ?_ | refine tr_mcallX hP hG (c6) rfl rfl rfl rfl rfl rfl rfl rfl rfl rfl rfl rfl ?_ | refine tr_mcallX hP hG (c7) rfl rfl rfl rfl rfl rfl rfl rfl rfl rfl rfl rfl ?_ | refine tr_callV hP hG (c8) rfl (by (repeat' first | exact FzL.nil | refine FzL.cons ?_ ?_ | exact Fz.fr rfl | exact Fz.nil _ | exact Fz.s _ _ _ _ _ _ rfl (List.length_map ..).symm | exact Fz.s _ _ _ _ _ _ rfl rfl | refine Fz.pL rfl ?_ | refine Fz.aggL ?_); first | done | fail) rfl ?_ | refine tr_callA rfl (by rw [hP, hG]; exact c3) rfl ?_ | fail)
    exact .fr rfl
  | cons x b =>
   have hx : row[a.length]? = some x := by rw [e]; exact ix
   simp only [List.length_cons] at hla
   have hlt : decide ((a.length : Int) < ((row.map cPick).length : Int)) = true := decide_eq_true (by omega)
   have hw1 : IntKind.i64.wrap ((a.length : Int) + 1) = ((a ++ [x]).length : Int) := by rw [w64 (by omega), List.length_append]; rfl
   have hqa2 := hqa.step hc hn x
   have c5 := tdo_own p ho hc _ hqa (by omega) h3 x.1 x.2
   have c6 := tsoR_own p ho hc _ hqa.st hqa.blen (by have := hqa.thr; omega) (fun l hl => ⟨by have := (hqa.few l hl).1; omega, (hqa.few l hl).2⟩) x.1 x.2
   have c7 := tstate_own (G := Tabs) p _ hqa2 (by omega) (by have := hqa2.memLen hc; omega) h3
   have hok := hqa2.okS hc (by omega) (by omega)
   have c8 := sameSt_spec (G := Tabs) _ hok
   obtain ⟨s1, R1, hq1, hl1, hR1⟩ := hqa.split hq0 h3
   obtain ⟨s2, R2, hq2, hl2, hR2⟩ := hqa2.split hqa h3
   have hms : (tsoW p s1 x.1 x.2).1 = s2 := by
    have := congrArg Prod.fst hq2
    rw [hq1] at this
    exact this
   rw [show (x.1, x.2) = x from rfl, hq2] at c5
   rw [hq2] at c7 c8
   rw [hq1] at c5 c6 hl2
   simp only at c5 c6 c7 c8 hl2
   rw [hms] at c6
   rw [hq1]
   generalize (tsoW p s1 x.1 x.2).2 = b1 at c5 c6
   have hbb : (!(b1 == b1)) = false := by cases b1 <;> rfl
   rcases rows33 hR1 hl2 with ⟨rfl, rfl⟩ | ⟨_, _, rfl, rfl⟩ | ⟨_, _, _, _, rfl, rfl⟩ | ⟨_, _, _, _, _, _, rfl, rfl⟩
   all_goals first | (exfalso; simp at hl1; done) | skip
   all_goals
    repeat' (first | refine goR rfl ?_ | refine goS rfl ?_ | refine tret1 rfl ?_ | refine tretN rfl ?_ | refine tr_guard_y rfl rfl ?_ | refine tr_guard_n rfl rfl ?_ | refine ts_cond_t rfl rfl ?_ | refine ts_cond_f rfl rfl ?_ | refine ts_cond_t rfl hlt ?_ | refine tr_light (tl_ixm rfl rfl rfl hx) ?_ | refine tr_mcallX hP hG (c5) rfl rfl rfl rfl rfl rfl rfl rfl rfl rfl rfl rfl ?_ | refine tr_mcallX hP hG (c6) rfl rfl rfl rfl rfl rfl rfl rfl rfl rfl rfl rfl ?_ | (refine tr_light (tl_neb (by rw [hP]; exact ut_bool) rfl rfl) ?_; rw [hbb]) | refine tr_mcallX hP hG (c7) rfl rfl rfl rfl rfl rfl rfl rfl rfl rfl rfl rfl ?_ | refine tr_callV hP hG (c8) rfl (by (repeat' first | exact FzL.nil | refine FzL.cons ?_ ?_ | exact Fz.fr rfl | exact Fz.nil _ | exact Fz.s _ _ _ _ _ _ rfl (List.length_map ..).symm | exact Fz.s _ _ _ _ _ _ rfl rfl | refine Fz.pL rfl ?_ | refine Fz.aggL ?_); first | done | fail) rfl ?_ | fail)
    refine again (m' := b.length) (Nat.lt_succ_self _) (w_canon 60 [] [6, 7, 5, 8, 9] hp rfl rfl rfl rfl) ⟨a ++ [x], b, by rw [e]; simp, rfl, by rw [hw1]; rfl, by rw [runT_snoc, hq2]; rfl⟩
end
end Go.Proofs.YtphcaohldmdglaaGreatDoor
