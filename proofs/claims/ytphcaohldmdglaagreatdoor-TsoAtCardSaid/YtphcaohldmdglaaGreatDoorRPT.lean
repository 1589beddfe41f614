/-
  Walks of functions of the program, and what the laws need of them.
-/
import Derived.Test.YtphcaohldmdglaaGreatDoorRPS
import Derived.Test.YtphcaohldmdglaaGreatDoorRPR
import Derived.Test.YtphcaohldmdglaaGreatDoorRPK
import Derived.Test.YtphcaohldmdglaaGreatDoorVI
set_option linter.all false
set_option linter.unusedSimpArgs false
set_option linter.unusedVariables false
set_option linter.unnecessarySimpa false
namespace Go.Proofs.YtphcaohldmdglaaGreatDoor
set_option maxRecDepth 20000
open Go Go.Proofs.YtphcaohldmdglaaGreatDoor.V Go.Proofs
def enB (N : Nat) (e : Entry) : Bool := decide (0 ≤ e.addr) && decide (e.addr < N)
theorem goodT {s : State} {p : Prg} {N : Nat} {w0 : Bool} (h0 : w0 = (decide (s.mem.length = N) && (decide (s.thr.length = p.threads.length) && decide (s.bufs.length ≤ p.threads.length)))) (hw : true = (w0 && s.bufs.all fun l => l.all (enB N))) :
  s.mem.length = N ∧ s.thr.length = p.threads.length ∧ s.bufs.length ≤ p.threads.length ∧ ∀ l ∈ s.bufs, ∀ e ∈ l, 0 ≤ e.addr ∧ e.addr < N := by
 rw [h0] at hw
 have := hw.symm
 simp only [Bool.and_eq_true, decide_eq_true_eq, List.all_eq_true, enB] at this
 exact ⟨this.1.1, this.1.2.1, this.1.2.2, this.2⟩
theorem goodF {s : State} {p : Prg} {N : Nat} {w0 : Bool} (h0 : w0 = (decide (s.mem.length = N) && (decide (s.thr.length = p.threads.length) && decide (s.bufs.length ≤ p.threads.length)))) (hw : false = (w0 && s.bufs.all fun l => l.all (enB N))) :
  ¬ (s.mem.length = N ∧ s.thr.length = p.threads.length ∧ s.bufs.length ≤ p.threads.length ∧ ∀ l ∈ s.bufs, ∀ e ∈ l, 0 ≤ e.addr ∧ e.addr < N) := by
 rintro ⟨k1, k2, k3, k4⟩
 rw [h0, dT k1, dT k2, dT k3] at hw
 have : (s.bufs.all fun l => l.all (enB N)) = true := List.all_eq_true.2 fun l hl => List.all_eq_true.2 fun e he => by
  obtain ⟨y1, y2⟩ := k4 l hl e he
  simp [enB, y1, y2]
 rw [this] at hw
 cases hw
section
attribute [local irreducible] TwS TwR thenT inBlockT retT nextW localW loadedW swapW Rg.push Rg.pop tsoW doR
set_option maxHeartbeats 20000000 in
theorem tsoAt (l : List (List Act)) (hl : ∀ r ∈ l, ∀ a ∈ r, inR a.n) (picks : List Int) (s : State) : Pure prog Tabs n_law_TsoAt [cActs l, rwI picks, .agg (cState s)] (tB true) := by
 have g1 := fun G => greatS_spec (G := G) s
 have c0 := alive_spec
 obtain ⟨p, ho, hc, hn, c1, h3, hq, _⟩ := book_sc l hl
 have hth : (p.threads.map cTh).length = p.threads.length := lM ..
 have hq0 := beginM_ok hq
 have c2 := tnew_own p ho hc (start_okS hc) rfl h3
 have hR0 : (beginM p).2.length ≤ 3 := by show (List.replicate _ _).length ≤ 3; rw [List.length_replicate]; exact h3
 cases hg : greatS s with
 | true =>
  rw [hg] at g1
  generalize beginM p = q0 at c2 hR0
  obtain ⟨s0, R0⟩ := q0
  simp only at c2 hR0
  refine Pure.of mixedOk (fn := f_law_TsoAt) (by kernel_rfl) (by kernel_rfl) ok_law_TsoAt rfl fun C hP hG hp => goF ?_; simp only [fs_law_TsoAt, targEnv, Nat.zero_add, Nat.reduceAdd]
  rcases rows3 hR0 with rfl | ⟨_, rfl⟩ | ⟨_, _, rfl⟩ | ⟨_, _, _, rfl⟩
  all_goals
   repeat' (first | refine goR rfl ?_ | refine goS rfl ?_ | refine tret1 rfl ?_ | refine tretN rfl ?_ | refine gY rfl rfl ?_ | refine gN rfl rfl ?_ | refine qT rfl rfl ?_ | refine qF rfl rfl ?_ | refine cA rfl (by rw [hP]; exact c1 _) rfl ?_ | refine tr_mcallX hP hG (c2) rfl rfl rfl rfl rfl rfl rfl rfl rfl rfl rfl rfl ?_ | refine cA rfl (by rw [hP]; exact g1 _) rfl ?_ | refine cA rfl (by rw [hP, hG]; exact c0) rfl ?_ | fail)
   exact .fr rfl
 | false =>
  rw [hg] at g1
  have hgs : s.mem.length ≤ 30 ∧ s.thr.length ≤ 8 ∧ s.bufs.length ≤ 8 ∧ ∀ l ∈ s.bufs, l.length ≤ 12 := by
   unfold greatS at hg
   split at hg
   ·cases hg
   ·refine ⟨by omega, by omega, by omega, fun l hl => ?_⟩
    have := List.any_eq_false.1 hg l hl
    simp only [bufG, decide_eq_true_eq] at this
    omega
  obtain ⟨hs1, hs2, hs3, hs4⟩ := hgs
  have c3 := picks_own (G := Tabs) picks (p.threads.map cTh).length 60 (by omega) (by decide)
  have hsl := picksF_len picks (p.threads.map cTh).length 60
  generalize picksF picks (p.threads.map cTh).length 60 = st at c3 hsl
  have hsm : (st.map cPick).length = st.length := lM ..
  obtain ⟨half, hh⟩ : ∃ half : Nat, half = st.length / 2 := ⟨_, rfl⟩
  have eh : IntKind.i64.wrap (((st.map cPick).length : Int).tdiv ((1 + 1 : Nat) : Int)) = (half : Int) := by
   rw [Int.tdiv_eq_ediv_of_nonneg (by omega), w64 (by omega), hsm, hh]; rfl
  have hsl1 : ((st.map cPick).drop ((none : Option Int).getD 0).toNat).take (((some (IntKind.i64.wrap (((st.map cPick).length : Int).tdiv ((1 + 1 : Nat) : Int)))).getD (st.map cPick).length).toNat - ((none : Option Int).getD 0).toNat) = (st.take half).map cPick := by
   rw [Option.getD_some, eh]
   simp [List.map_take]
  have hsl2 : ((st.map cPick).drop ((some (IntKind.i64.wrap (((st.map cPick).length : Int).tdiv ((1 + 1 : Nat) : Int)))).getD 0).toNat).take (((none : Option Int).getD (st.map cPick).length).toNat - ((some (IntKind.i64.wrap (((st.map cPick).length : Int).tdiv ((1 + 1 : Nat) : Int)))).getD 0).toNat) = (st.drop half).map cPick := by
   rw [Option.getD_some, eh]
   simp [List.map_drop, List.take_of_length_le]
  have hta : (st.take half).length ≤ 60 := by rw [List.length_take]; omega
  have htb : (st.drop half).length ≤ 60 := by rw [List.length_drop]; omega
  generalize st.take half = pa at *
  generalize st.drop half = pb at *
  have hqa := hq0.run hc hn pa
  have c4 := trun_own p ho hc hn _ hq0 pa (by omega) h3
  have c5 := tstate_own (G := Tabs) p _ hqa (by omega) (by have := hqa.memLen hc; omega) h3
  have hok1 := hqa.okS hc (by omega) (by omega)
  have hfw := hqa.few
  have hbl := hqa.blen.trans hqa.thr
  have hth1 := hqa.thr
  have c6 := tat_own p ho hc h3 (runT p (beginM p) pa).1 hqa.st.len hqa.thr (by omega) (fun l hl => by have := (hfw l hl).1; omega) (fun l hl => (hfw l hl).2)
  have hqb : mQ p (0 + pa.length) ((runT p (beginM p) pa).1, atK p.threads.length (runT p (beginM p) pa).1.bufs) := atK_ok hqa
  have c7 := tstate_own (G := Tabs) p _ hqb (by omega) (by have := hqa.memLen hc; exact Nat.le_trans this (by decide)) h3
  have c8 := fun G => sameSt_spec (G := G) _ hok1
  have hqa2 := hqa.run hc hn pb
  have hqb2 := hqb.run hc hn pb
  have c9 := trun_own p ho hc hn _ hqa pb (by omega) h3
  have c10 := trun_own p ho hc hn _ hqb pb (by omega) h3
  have hok2 := hqa2.okS hc (by omega) (by omega)
  have c11 := size_spec p ho hc
  have c12 := tstate_own (G := Tabs) p _ hqa2 (by omega) (by have := hqa2.memLen hc; omega) h3
  have c13 := tstate_own (G := Tabs) p _ hqb2 (by omega) (by have := hqb2.memLen hc; omega) h3
  have c14 := fun G => sameSt_spec (G := G) _ hok2
  have hfst : (runT p ((runT p (beginM p) pa).1, atK p.threads.length (runT p (beginM p) pa).1.bufs) pb).1 = (runT p (runT p (beginM p) pa) pb).1 := runT_fst p pb _ _ _
  have t1 := fun hm ht hb hll hen => tat_own p ho hc h3 s hm ht hb hll hen
  have t2 := fun hll hx => tat_no p ho hc h3 s hll hx
  obtain ⟨u1, R1, hq1, hl1, hR1⟩ := hqa.split hq0 h3
  obtain ⟨u2, R2, hq2, hl2, hR2⟩ := hqa2.split hqa h3
  obtain ⟨u3, R3, hq3, hl3, hR3⟩ := hqb2.split hqb h3
  have hRb : (atK p.threads.length (runT p (beginM p) pa).1.bufs).length = R1.length := by
   rw [atK_len (by omega)]
   have := hqa.rg.len
   rw [hq1] at this hth1
   exact (this.trans hth1).symm
  rw [hq3] at c10 c13 hfst
  rw [hq2] at c9 c12 c14 hfst
  simp only at hfst
  subst hfst
  rw [hq1] at c4 c5 c6 c7 c8 c9 c10 hl2 hl3 hRb
  simp only at c4 c5 c6 c7 c8 c9 c10 c12 c13 c14 hl2 hl3 hRb
  generalize atK p.threads.length u1.bufs = Rb at *
  generalize hqe : beginM p = q0 at *
  obtain ⟨u0, R0⟩ := q0
  simp only at c2 c4 hl1 hR0
  generalize cntT p (u0, R0) pa = n1 at c4
  generalize cntT p (u1, R1) pb = n2 at c9
  generalize cntT p (u1, Rb) pb = n3 at c10
  generalize hN : (startF p.syms).length = N at *
  obtain ⟨w0, hw0⟩ : ∃ w0 : Bool, w0 = (decide (s.mem.length = N) && (decide (s.thr.length = p.threads.length) && decide (s.bufs.length ≤ p.threads.length))) := ⟨_, rfl⟩
  have m1 : (s.mem.map fun n => [tI n]).length = s.mem.length := lM ..
  have m2 : (s.thr.map cThr).length = s.thr.length := lM ..
  have m3 : (s.bufs.map cBuf).length = s.bufs.length := lM ..
  clear hqa hqb hqa2 hqb2 hq0 hq hok1 hok2 hfw hbl hth1 hq1 hq2 hq3 hqe
  refine Pure.of mixedOk (fn := f_law_TsoAt) (by kernel_rfl) (by kernel_rfl) ok_law_TsoAt rfl fun C hP hG hp => goF ?_; simp only [fs_law_TsoAt, targEnv, Nat.zero_add, Nat.reduceAdd]
  rcases rows33 hR0 hl1 with ⟨rfl, rfl⟩ | ⟨_, _, rfl, rfl⟩ | ⟨_, _, _, _, rfl, rfl⟩ | ⟨_, _, _, _, _, _, rfl, rfl⟩
  all_goals
   rcases rows33 hR2 (hRb.trans hl2.symm) with ⟨rfl, rfl⟩ | ⟨_, _, rfl, rfl⟩ | ⟨_, _, _, _, rfl, rfl⟩ | ⟨_, _, _, _, _, _, rfl, rfl⟩
  all_goals first | (exfalso; simp at hl2; done) | skip
  all_goals
   rcases rows3 hR3 with rfl | ⟨_, rfl⟩ | ⟨_, _, rfl⟩ | ⟨_, _, _, rfl⟩
  all_goals first | (exfalso; simp at hl3; done) | skip
  -- cases
  ·repeat' (first | refine goR rfl ?_ | refine goS rfl ?_ | refine tret1 rfl ?_ | refine tretN rfl ?_ | refine gY rfl rfl ?_ | refine gN rfl rfl ?_ | refine qT rfl rfl ?_ | refine qF rfl rfl ?_ | refine cA rfl (by rw [hP]; exact c1 _) rfl ?_ | refine tr_mcallX hP hG (c2) rfl rfl rfl rfl rfl rfl rfl rfl rfl rfl rfl rfl ?_ | refine cA rfl (by rw [hP]; exact g1 _) rfl ?_ | fail)
   refine tr_mcallX hP hG (c3) rfl rfl rfl rfl rfl rfl rfl rfl rfl rfl rfl rfl ?_
   refine tr_frzS 35 rfl rfl (lM ..).symm ?_
   repeat' (first | refine goR rfl ?_ | refine goS rfl ?_ | refine tret1 rfl ?_ | refine tretN rfl ?_ | refine gY rfl rfl ?_ | refine gN rfl rfl ?_ | refine qT rfl rfl ?_ | refine qF rfl rfl ?_ | refine lT (tl_slc (r := pa.map cPick) rfl rfl rfl ⟨by simp only [Option.getD_none]; omega, by simp only [Option.getD_some, Option.getD_none]; omega, by simp only [Option.getD_some]; omega⟩ hsl1) ?_ | refine tr_mcallX hP hG (c4) rfl rfl rfl rfl rfl rfl rfl rfl rfl rfl rfl rfl ?_ | refine tr_mcallX hP hG (c5) rfl rfl rfl rfl rfl rfl rfl rfl rfl rfl rfl rfl ?_ | fail)
   refine tr_frzA 46 0 rfl rfl rfl (lM ..).symm ?_
   refine tr_frzA 46 1 rfl rfl rfl (lM ..).symm ?_
   refine tr_frzA 46 2 rfl rfl rfl (lM ..).symm ?_
   repeat' (first | refine goR rfl ?_ | refine goS rfl ?_ | refine tret1 rfl ?_ | refine tretN rfl ?_ | refine gY rfl rfl ?_ | refine gN rfl rfl ?_ | refine qT rfl rfl ?_ | refine qF rfl rfl ?_ | refine tr_mcallX hP hG (c6) rfl rfl rfl rfl rfl rfl rfl rfl rfl rfl rfl rfl ?_ | refine tr_mcallX hP hG (c5) rfl rfl rfl rfl rfl rfl rfl rfl rfl rfl rfl rfl ?_ | refine tr_mcallX hP hG (c7) rfl rfl rfl rfl rfl rfl rfl rfl rfl rfl rfl rfl ?_ | refine tr_callV hP hG (c8 _) rfl (by (repeat' first | exact FzL.nil | refine FzL.cons ?_ ?_ | exact Fz.fr rfl | exact Fz.nil _ | exact Fz.s _ _ _ _ _ _ rfl (lM ..).symm | exact Fz.s _ _ _ _ _ _ rfl rfl | refine Fz.pL rfl ?_ | refine Fz.aggL ?_); first | done | fail) rfl ?_ | refine lT (tl_slc (r := pb.map cPick) rfl rfl rfl ⟨by simp only [Option.getD_some]; omega, by simp only [Option.getD_some, Option.getD_none]; omega, by simp only [Option.getD_none]; omega⟩ hsl2) ?_ | refine tr_mcallX hP hG (c9) rfl rfl rfl rfl rfl rfl rfl rfl rfl rfl rfl rfl ?_ | refine tr_mcallX hP hG (c10) rfl rfl rfl rfl rfl rfl rfl rfl rfl rfl rfl rfl ?_ | refine cA rfl (by rw [hP, hG]; exact c11) rfl ?_ | fail)
   refine joinR 0 (fun env σ => env = [(5, .p 0 0), (7, .p 1 0), (8, .p 2 0), (11, .p 6 0), (12, tI N), (13, tB w0)] ∧ σ = ⟨(0, .cells (cState s) ty_api_State) :: (1, .cells (cPrg p) ty_api_Prog) :: (tsM p u3 [] 2 ++ tsM p u3 [] 6), 60⟩) rfl ?_ ?_
   ·by_cases k1 : s.mem.length = N
    ·by_cases k2 : s.thr.length = p.threads.length
     ·by_cases k3 : s.bufs.length ≤ p.threads.length
      ·obtain rfl : w0 = true := by rw [hw0, dT k1, dT k2, dT k3]; rfl
       repeat' (first | refine goR rfl ?_ | refine goS rfl ?_ | refine tret1 rfl ?_ | refine tretN rfl ?_ | refine gY rfl rfl ?_ | refine gN rfl rfl ?_ | refine qT rfl rfl ?_ | refine qF rfl rfl ?_ | ((first | refine gS rfl (fun h => ?_) (fun h => ?_) | refine ts_cond rfl (fun h => ?_) (fun h => ?_)) <;> (try simp only [bs0, beq_iff_eq] at h) <;> try (exfalso; first | omega | exact h rfl; done)) | fail)
       all_goals first | exact joined (w_canon 60 [] [5, 7, 8, 11, 12, 13] hp rfl rfl rfl rfl) ⟨rfl, rfl⟩ | exact joined (w_canon 60 [] [5, 7, 8, 11, 12, 13] hp rfl rfl rfl rfl) ⟨by rw [dT (by omega)] <;> rfl, rfl⟩ | exact joined (w_canon 60 [] [5, 7, 8, 11, 12, 13] hp rfl rfl rfl rfl) ⟨by rw [dF (by omega)] <;> rfl, rfl⟩
      ·obtain rfl : w0 = false := by rw [hw0, dT k1, dT k2, dF k3]; rfl
       repeat' (first | refine goR rfl ?_ | refine goS rfl ?_ | refine tret1 rfl ?_ | refine tretN rfl ?_ | refine gY rfl rfl ?_ | refine gN rfl rfl ?_ | refine qT rfl rfl ?_ | refine qF rfl rfl ?_ | ((first | refine gS rfl (fun h => ?_) (fun h => ?_) | refine ts_cond rfl (fun h => ?_) (fun h => ?_)) <;> (try simp only [bs0, beq_iff_eq] at h) <;> try (exfalso; first | omega | exact h rfl; done)) | fail)
       all_goals first | exact joined (w_canon 60 [] [5, 7, 8, 11, 12, 13] hp rfl rfl rfl rfl) ⟨rfl, rfl⟩ | exact joined (w_canon 60 [] [5, 7, 8, 11, 12, 13] hp rfl rfl rfl rfl) ⟨by rw [dT (by omega)] <;> rfl, rfl⟩ | exact joined (w_canon 60 [] [5, 7, 8, 11, 12, 13] hp rfl rfl rfl rfl) ⟨by rw [dF (by omega)] <;> rfl, rfl⟩
     ·obtain rfl : w0 = false := by rw [hw0, dT k1, dF k2]; rfl
      repeat' (first | refine goR rfl ?_ | refine goS rfl ?_ | refine tret1 rfl ?_ | refine tretN rfl ?_ | refine gY rfl rfl ?_ | refine gN rfl rfl ?_ | refine qT rfl rfl ?_ | refine qF rfl rfl ?_ | ((first | refine gS rfl (fun h => ?_) (fun h => ?_) | refine ts_cond rfl (fun h => ?_) (fun h => ?_)) <;> (try simp only [bs0, beq_iff_eq] at h) <;> try (exfalso; first | omega | exact h rfl; done)) | fail)
      all_goals first | exact joined (w_canon 60 [] [5, 7, 8, 11, 12, 13] hp rfl rfl rfl rfl) ⟨rfl, rfl⟩ | exact joined (w_canon 60 [] [5, 7, 8, 11, 12, 13] hp rfl rfl rfl rfl) ⟨by rw [dT (by omega)] <;> rfl, rfl⟩ | exact joined (w_canon 60 [] [5, 7, 8, 11, 12, 13] hp rfl rfl rfl rfl) ⟨by rw [dF (by omega)] <;> rfl, rfl⟩
    ·obtain rfl : w0 = false := by rw [hw0, dF k1]; rfl
     repeat' (first | refine goR rfl ?_ | refine goS rfl ?_ | refine tret1 rfl ?_ | refine tretN rfl ?_ | refine gY rfl rfl ?_ | refine gN rfl rfl ?_ | refine qT rfl rfl ?_ | refine qF rfl rfl ?_ | ((first | refine gS rfl (fun h => ?_) (fun h => ?_) | refine ts_cond rfl (fun h => ?_) (fun h => ?_)) <;> (try simp only [bs0, beq_iff_eq] at h) <;> try (exfalso; first | omega | exact h rfl; done)) | fail)
     all_goals first | exact joined (w_canon 60 [] [5, 7, 8, 11, 12, 13] hp rfl rfl rfl rfl) ⟨rfl, rfl⟩ | exact joined (w_canon 60 [] [5, 7, 8, 11, 12, 13] hp rfl rfl rfl rfl) ⟨by rw [dT (by omega)] <;> rfl, rfl⟩ | exact joined (w_canon 60 [] [5, 7, 8, 11, 12, 13] hp rfl rfl rfl rfl) ⟨by rw [dF (by omega)] <;> rfl, rfl⟩
   ·rintro env σ ⟨rfl, rfl⟩
    clear c2 c3 c4 c5 c6 c7 c8 c9 c10 c11 g1
    repeat' (first | refine goR rfl ?_ | refine goS rfl ?_ | refine tret1 rfl ?_ | refine tretN rfl ?_ | refine gY rfl rfl ?_ | refine gN rfl rfl ?_ | refine qT rfl rfl ?_ | refine qF rfl rfl ?_ | fail)
    refine loopS (fun m env σ => ∃ a b, ∃ w : Bool, s.bufs = a ++ b ∧ m = b.length ∧ w = (w0 && a.all fun l => l.all (enB N)) ∧ env = [(5, .p 0 0), (7, .p 1 0), (8, .p 2 0), (11, .p 6 0), (12, tI N), (13, tB w), (14, tI a.length)] ∧ σ = ⟨(0, .cells (cState s) ty_api_State) :: (1, .cells (cPrg p) ty_api_Prog) :: (tsM p u3 [] 2 ++ tsM p u3 [] 6), 60⟩) s.bufs.length (w_canon 60 [] [5, 7, 8, 11, 12, 13, 14] hp rfl rfl rfl rfl) ⟨[], s.bufs, w0, rfl, rfl, by simp, rfl, rfl⟩ ?_
    rintro m env σ ⟨a, b, w, e, rfl, hw, rfl, rfl⟩
    have hla : s.bufs.length = a.length + b.length := by rw [e, lA]
    cases b with
    | cons x b =>
     have hx : s.bufs[a.length]? = some x := by rw [e]; exact ix
     have hx12 := hs4 x (List.mem_of_getElem? hx)
     have hxm : (x.map cEntry).length = x.length := lM ..
     simp only [List.length_cons] at hla
     have hw1 : IntKind.i64.wrap ((a.length : Int) + 1) = ((a ++ [x]).length : Int) := by rw [w64 (by omega), lA]; rfl
     repeat' (first | refine goR rfl ?_ | refine goS rfl ?_ | refine tret1 rfl ?_ | refine tretN rfl ?_ | refine gY rfl rfl ?_ | refine gN rfl rfl ?_ | refine qT rfl rfl ?_ | refine qF rfl rfl ?_ | refine qT rfl (dT (by rw [lM]; omega)) ?_ | fail)
     refine loopS (fun m env σ => ∃ c d, ∃ v : Bool, x = c ++ d ∧ m = d.length ∧ v = (w && c.all (enB N)) ∧ env = [(5, .p 0 0), (7, .p 1 0), (8, .p 2 0), (11, .p 6 0), (12, tI N), (13, tB v), (14, tI a.length), (15, tI c.length)] ∧ σ = ⟨(0, .cells (cState s) ty_api_State) :: (1, .cells (cPrg p) ty_api_Prog) :: (tsM p u3 [] 2 ++ tsM p u3 [] 6), 60⟩) x.length (w_canon 60 [] [5, 7, 8, 11, 12, 13, 14, 15] hp rfl rfl rfl rfl) ⟨[], x, w, rfl, rfl, by simp, rfl, rfl⟩ ?_
     rintro m env σ ⟨c, d, v, e2, rfl, hv, rfl, rfl⟩
     have hlc : x.length = c.length + d.length := by rw [e2, lA]
     cases d with
     | nil =>
      rw [List.length_nil] at hlc
      rw [List.append_nil] at e2
      subst e2
      repeat' (first | refine goR rfl ?_ | refine goS rfl ?_ | refine tret1 rfl ?_ | refine tretN rfl ?_ | refine gY rfl rfl ?_ | refine gN rfl rfl ?_ | refine qT rfl rfl ?_ | refine qF rfl rfl ?_ | refine qF rfl (dF (by rw [lM]; omega)) ?_ | refine lT (tl_ixm rfl rfl rfl hx) ?_ | fail)
      refine again (m' := b.length) (Nat.lt_succ_self _) (w_canon 60 [] [5, 7, 8, 11, 12, 13, 14] hp rfl rfl rfl rfl) ⟨a ++ [x], b, v, by rw [e]; simp, rfl, by rw [List.all_append, ← Bool.and_assoc, ← hw, hv]; simp, by rw [hw1] <;> rfl, rfl⟩
     | cons y d =>
      have hy : x[c.length]? = some y := by rw [e2]; exact ix
      simp only [List.length_cons] at hlc
      have hw2 : IntKind.i64.wrap ((c.length : Int) + 1) = ((c ++ [y]).length : Int) := by rw [w64 (by omega), lA]; rfl
      cases v with
      | false =>
       repeat' (first | refine goR rfl ?_ | refine goS rfl ?_ | refine tret1 rfl ?_ | refine tretN rfl ?_ | refine gY rfl rfl ?_ | refine gN rfl rfl ?_ | refine qT rfl rfl ?_ | refine qF rfl rfl ?_ | refine qT rfl (dT (by rw [lM]; omega)) ?_ | refine lT (tl_ixm rfl rfl rfl hx) ?_ | refine lT (tl_ixm rfl rfl rfl hy) ?_ | fail)
       refine again (m' := d.length) (Nat.lt_succ_self _) (w_canon 60 [] [5, 7, 8, 11, 12, 13, 14, 15] hp rfl rfl rfl rfl) ⟨c ++ [y], d, false, by rw [e2]; simp, rfl, by rw [List.all_append, ← Bool.and_assoc, ← hv]; rfl, by rw [hw2] <;> rfl, rfl⟩
      | true =>
       by_cases y1 : 0 ≤ y.addr
       ·by_cases y2 : y.addr < N
        ·repeat' (first | refine goR rfl ?_ | refine goS rfl ?_ | refine tret1 rfl ?_ | refine tretN rfl ?_ | refine gY rfl rfl ?_ | refine gN rfl rfl ?_ | refine qT rfl rfl ?_ | refine qF rfl rfl ?_ | refine qT rfl (dT (by rw [lM]; omega)) ?_ | refine lT (tl_ixm rfl rfl rfl hx) ?_ | refine lT (tl_ixm rfl rfl rfl hy) ?_ | ((first | refine gS rfl (fun h => ?_) (fun h => ?_) | refine ts_cond rfl (fun h => ?_) (fun h => ?_)) <;> (try simp only [bs0, beq_iff_eq] at h) <;> try (exfalso; first | omega | exact h rfl; done)) | fail)
         all_goals refine again (m' := d.length) (Nat.lt_succ_self _) (w_canon 60 [] [5, 7, 8, 11, 12, 13, 14, 15] hp rfl rfl rfl rfl) ⟨c ++ [y], d, true, by rw [e2]; simp, rfl, by rw [List.all_append, ← Bool.and_assoc, ← hv]; simp [enB, y1, y2], by rw [hw2] <;> first | rfl | (rw [dT (by omega)] <;> rfl) | (rw [dF (by omega)] <;> rfl), rfl⟩
        ·repeat' (first | refine goR rfl ?_ | refine goS rfl ?_ | refine tret1 rfl ?_ | refine tretN rfl ?_ | refine gY rfl rfl ?_ | refine gN rfl rfl ?_ | refine qT rfl rfl ?_ | refine qF rfl rfl ?_ | refine qT rfl (dT (by rw [lM]; omega)) ?_ | refine lT (tl_ixm rfl rfl rfl hx) ?_ | refine lT (tl_ixm rfl rfl rfl hy) ?_ | ((first | refine gS rfl (fun h => ?_) (fun h => ?_) | refine ts_cond rfl (fun h => ?_) (fun h => ?_)) <;> (try simp only [bs0, beq_iff_eq] at h) <;> try (exfalso; first | omega | exact h rfl; done)) | fail)
         all_goals refine again (m' := d.length) (Nat.lt_succ_self _) (w_canon 60 [] [5, 7, 8, 11, 12, 13, 14, 15] hp rfl rfl rfl rfl) ⟨c ++ [y], d, false, by rw [e2]; simp, rfl, by rw [List.all_append, ← Bool.and_assoc, ← hv]; simp [enB, y2], by rw [hw2] <;> first | rfl | (rw [dT (by omega)] <;> rfl) | (rw [dF (by omega)] <;> rfl), rfl⟩
       ·repeat' (first | refine goR rfl ?_ | refine goS rfl ?_ | refine tret1 rfl ?_ | refine tretN rfl ?_ | refine gY rfl rfl ?_ | refine gN rfl rfl ?_ | refine qT rfl rfl ?_ | refine qF rfl rfl ?_ | refine qT rfl (dT (by rw [lM]; omega)) ?_ | refine lT (tl_ixm rfl rfl rfl hx) ?_ | refine lT (tl_ixm rfl rfl rfl hy) ?_ | ((first | refine gS rfl (fun h => ?_) (fun h => ?_) | refine ts_cond rfl (fun h => ?_) (fun h => ?_)) <;> (try simp only [bs0, beq_iff_eq] at h) <;> try (exfalso; first | omega | exact h rfl; done)) | fail)
        all_goals refine again (m' := d.length) (Nat.lt_succ_self _) (w_canon 60 [] [5, 7, 8, 11, 12, 13, 14, 15] hp rfl rfl rfl rfl) ⟨c ++ [y], d, false, by rw [e2]; simp, rfl, by rw [List.all_append, ← Bool.and_assoc, ← hv]; simp [enB, y1], by rw [hw2] <;> first | rfl | (rw [dT (by omega)] <;> rfl) | (rw [dF (by omega)] <;> rfl), rfl⟩
    | nil =>
     rw [List.length_nil] at hla
     rw [List.append_nil] at e
     rw [← e] at hw
     cases w with
     | true =>
      obtain ⟨k1, k2, k3, k4⟩ := goodT hw0 hw
      have c15 := t1 k1 k2 k3 (fun l hl => Nat.le_trans (hs4 l hl) (by decide)) (k1 ▸ k4)
      repeat' (first | refine goR rfl ?_ | refine goS rfl ?_ | refine tret1 rfl ?_ | refine tretN rfl ?_ | refine gY rfl rfl ?_ | refine gN rfl rfl ?_ | refine qT rfl rfl ?_ | refine qF rfl rfl ?_ | refine qF rfl (dF (by rw [lM]; omega)) ?_ | refine tr_mcallX hP hG (c12) rfl rfl rfl rfl rfl rfl rfl rfl rfl rfl rfl rfl ?_ | refine tr_mcallX hP hG (c13) rfl rfl rfl rfl rfl rfl rfl rfl rfl rfl rfl rfl ?_ | refine tr_callV hP hG (c14 _) rfl (by (repeat' first | exact FzL.nil | refine FzL.cons ?_ ?_ | exact Fz.fr rfl | exact Fz.nil _ | exact Fz.s _ _ _ _ _ _ rfl (lM ..).symm | exact Fz.s _ _ _ _ _ _ rfl rfl | refine Fz.pL rfl ?_ | refine Fz.aggL ?_); first | done | fail) rfl ?_ | fail)
      generalize hRs : atK p.threads.length s.bufs = Rs at c15
      have hRl : Rs.length ≤ 3 := by rw [← hRs, atK_len k3]; exact h3
      rcases rows3 hRl with rfl | ⟨_, rfl⟩ | ⟨_, _, rfl⟩ | ⟨_, _, _, rfl⟩
      all_goals
       repeat' (first | refine goR rfl ?_ | refine goS rfl ?_ | refine tret1 rfl ?_ | refine tretN rfl ?_ | refine gY rfl rfl ?_ | refine gN rfl rfl ?_ | refine qT rfl rfl ?_ | refine qF rfl rfl ?_ | refine tr_mcallX hP hG (c15) rfl rfl rfl rfl rfl rfl rfl rfl rfl rfl rfl rfl ?_ | refine lT (tl_eqb (by rw [hP]; exact ut_bool) rfl rfl) ?_ | refine cA rfl (by rw [hP, hG]; exact c0) rfl ?_ | fail)
       exact .fr rfl
     | false =>
      have c15 := t2 (fun l hl => Nat.le_trans (hs4 l hl) (by decide)) (goodF hw0 hw)
      repeat' (first | refine goR rfl ?_ | refine goS rfl ?_ | refine tret1 rfl ?_ | refine tretN rfl ?_ | refine gY rfl rfl ?_ | refine gN rfl rfl ?_ | refine qT rfl rfl ?_ | refine qF rfl rfl ?_ | refine qF rfl (dF (by rw [lM]; omega)) ?_ | refine tr_mcallX hP hG (c12) rfl rfl rfl rfl rfl rfl rfl rfl rfl rfl rfl rfl ?_ | refine tr_mcallX hP hG (c13) rfl rfl rfl rfl rfl rfl rfl rfl rfl rfl rfl rfl ?_ | refine tr_callV hP hG (c14 _) rfl (by (repeat' first | exact FzL.nil | refine FzL.cons ?_ ?_ | exact Fz.fr rfl | exact Fz.nil _ | exact Fz.s _ _ _ _ _ _ rfl (lM ..).symm | exact Fz.s _ _ _ _ _ _ rfl rfl | refine Fz.pL rfl ?_ | refine Fz.aggL ?_); first | done | fail) rfl ?_ | refine cA rfl (by rw [hP, hG]; exact c15) rfl ?_ | refine lT (tl_eqb (by rw [hP]; exact ut_bool) rfl rfl) ?_ | refine cA rfl (by rw [hP, hG]; exact c0) rfl ?_ | fail)
      exact .fr rfl
  ·rename_i a0 x0 b0
   repeat' (first | refine goR rfl ?_ | refine goS rfl ?_ | refine tret1 rfl ?_ | refine tretN rfl ?_ | refine gY rfl rfl ?_ | refine gN rfl rfl ?_ | refine qT rfl rfl ?_ | refine qF rfl rfl ?_ | refine cA rfl (by rw [hP]; exact c1 _) rfl ?_ | refine tr_mcallX hP hG (c2) rfl rfl rfl rfl rfl rfl rfl rfl rfl rfl rfl rfl ?_ | refine cA rfl (by rw [hP]; exact g1 _) rfl ?_ | fail)
   refine tr_mcallX hP hG (c3) rfl rfl rfl rfl rfl rfl rfl rfl rfl rfl rfl rfl ?_
   refine tr_frzS 35 rfl rfl (lM ..).symm ?_
   repeat' (first | refine goR rfl ?_ | refine goS rfl ?_ | refine tret1 rfl ?_ | refine tretN rfl ?_ | refine gY rfl rfl ?_ | refine gN rfl rfl ?_ | refine qT rfl rfl ?_ | refine qF rfl rfl ?_ | refine lT (tl_slc (r := pa.map cPick) rfl rfl rfl ⟨by simp only [Option.getD_none]; omega, by simp only [Option.getD_some, Option.getD_none]; omega, by simp only [Option.getD_some]; omega⟩ hsl1) ?_ | refine tr_mcallX hP hG (c4) rfl rfl rfl rfl rfl rfl rfl rfl rfl rfl rfl rfl ?_ | refine tr_mcallX hP hG (c5) rfl rfl rfl rfl rfl rfl rfl rfl rfl rfl rfl rfl ?_ | fail)
   refine tr_frzA 46 0 rfl rfl rfl (lM ..).symm ?_
   refine tr_frzA 46 1 rfl rfl rfl (lM ..).symm ?_
   refine tr_frzA 46 2 rfl rfl rfl (lM ..).symm ?_
   repeat' (first | refine goR rfl ?_ | refine goS rfl ?_ | refine tret1 rfl ?_ | refine tretN rfl ?_ | refine gY rfl rfl ?_ | refine gN rfl rfl ?_ | refine qT rfl rfl ?_ | refine qF rfl rfl ?_ | refine tr_mcallX hP hG (c6) rfl rfl rfl rfl rfl rfl rfl rfl rfl rfl rfl rfl ?_ | refine tr_mcallX hP hG (c5) rfl rfl rfl rfl rfl rfl rfl rfl rfl rfl rfl rfl ?_ | refine tr_mcallX hP hG (c7) rfl rfl rfl rfl rfl rfl rfl rfl rfl rfl rfl rfl ?_ | refine tr_callV hP hG (c8 _) rfl (by (repeat' first | exact FzL.nil | refine FzL.cons ?_ ?_ | exact Fz.fr rfl | exact Fz.nil _ | exact Fz.s _ _ _ _ _ _ rfl (lM ..).symm | exact Fz.s _ _ _ _ _ _ rfl rfl | refine Fz.pL rfl ?_ | refine Fz.aggL ?_); first | done | fail) rfl ?_ | refine lT (tl_slc (r := pb.map cPick) rfl rfl rfl ⟨by simp only [Option.getD_some]; omega, by simp only [Option.getD_some, Option.getD_none]; omega, by simp only [Option.getD_none]; omega⟩ hsl2) ?_ | refine tr_mcallX hP hG (c9) rfl rfl rfl rfl rfl rfl rfl rfl rfl rfl rfl rfl ?_ | refine tr_mcallX hP hG (c10) rfl rfl rfl rfl rfl rfl rfl rfl rfl rfl rfl rfl ?_ | refine cA rfl (by rw [hP, hG]; exact c11) rfl ?_ | fail)
   refine joinR 0 (fun env σ => env = [(5, .p 0 0), (7, .p 1 0), (8, .p 2 0), (11, .p 8 0), (12, tI N), (13, tB w0)] ∧ σ = ⟨(0, .cells (cState s) ty_api_State) :: (1, .cells (cPrg p) ty_api_Prog) :: (tsM p u3 [a0] 2 ++ tsM p u3 [b0] 8), 60⟩) rfl ?_ ?_
   ·by_cases k1 : s.mem.length = N
    ·by_cases k2 : s.thr.length = p.threads.length
     ·by_cases k3 : s.bufs.length ≤ p.threads.length
      ·obtain rfl : w0 = true := by rw [hw0, dT k1, dT k2, dT k3]; rfl
       repeat' (first | refine goR rfl ?_ | refine goS rfl ?_ | refine tret1 rfl ?_ | refine tretN rfl ?_ | refine gY rfl rfl ?_ | refine gN rfl rfl ?_ | refine qT rfl rfl ?_ | refine qF rfl rfl ?_ | ((first | refine gS rfl (fun h => ?_) (fun h => ?_) | refine ts_cond rfl (fun h => ?_) (fun h => ?_)) <;> (try simp only [bs0, beq_iff_eq] at h) <;> try (exfalso; first | omega | exact h rfl; done)) | fail)
       all_goals first | exact joined (w_canon 60 [] [5, 7, 8, 11, 12, 13] hp rfl rfl rfl rfl) ⟨rfl, rfl⟩ | exact joined (w_canon 60 [] [5, 7, 8, 11, 12, 13] hp rfl rfl rfl rfl) ⟨by rw [dT (by omega)] <;> rfl, rfl⟩ | exact joined (w_canon 60 [] [5, 7, 8, 11, 12, 13] hp rfl rfl rfl rfl) ⟨by rw [dF (by omega)] <;> rfl, rfl⟩
      ·obtain rfl : w0 = false := by rw [hw0, dT k1, dT k2, dF k3]; rfl
       repeat' (first | refine goR rfl ?_ | refine goS rfl ?_ | refine tret1 rfl ?_ | refine tretN rfl ?_ | refine gY rfl rfl ?_ | refine gN rfl rfl ?_ | refine qT rfl rfl ?_ | refine qF rfl rfl ?_ | ((first | refine gS rfl (fun h => ?_) (fun h => ?_) | refine ts_cond rfl (fun h => ?_) (fun h => ?_)) <;> (try simp only [bs0, beq_iff_eq] at h) <;> try (exfalso; first | omega | exact h rfl; done)) | fail)
       all_goals first | exact joined (w_canon 60 [] [5, 7, 8, 11, 12, 13] hp rfl rfl rfl rfl) ⟨rfl, rfl⟩ | exact joined (w_canon 60 [] [5, 7, 8, 11, 12, 13] hp rfl rfl rfl rfl) ⟨by rw [dT (by omega)] <;> rfl, rfl⟩ | exact joined (w_canon 60 [] [5, 7, 8, 11, 12, 13] hp rfl rfl rfl rfl) ⟨by rw [dF (by omega)] <;> rfl, rfl⟩
     ·obtain rfl : w0 = false := by rw [hw0, dT k1, dF k2]; rfl
      repeat' (first | refine goR rfl ?_ | refine goS rfl ?_ | refine tret1 rfl ?_ | refine tretN rfl ?_ | refine gY rfl rfl ?_ | refine gN rfl rfl ?_ | refine qT rfl rfl ?_ | refine qF rfl rfl ?_ | ((first | refine gS rfl (fun h => ?_) (fun h => ?_) | refine ts_cond rfl (fun h => ?_) (fun h => ?_)) <;> (try simp only [bs0, beq_iff_eq] at h) <;> try (exfalso; first | omega | exact h rfl; done)) | fail)
      all_goals first | exact joined (w_canon 60 [] [5, 7, 8, 11, 12, 13] hp rfl rfl rfl rfl) ⟨rfl, rfl⟩ | exact joined (w_canon 60 [] [5, 7, 8, 11, 12, 13] hp rfl rfl rfl rfl) ⟨by rw [dT (by omega)] <;> rfl, rfl⟩ | exact joined (w_canon 60 [] [5, 7, 8, 11, 12, 13] hp rfl rfl rfl rfl) ⟨by rw [dF (by omega)] <;> rfl, rfl⟩
    ·obtain rfl : w0 = false := by rw [hw0, dF k1]; rfl
     repeat' (first | refine goR rfl ?_ | refine goS rfl ?_ | refine tret1 rfl ?_ | refine tretN rfl ?_ | refine gY rfl rfl ?_ | refine gN rfl rfl ?_ | refine qT rfl rfl ?_ | refine qF rfl rfl ?_ | ((first | refine gS rfl (fun h => ?_) (fun h => ?_) | refine ts_cond rfl (fun h => ?_) (fun h => ?_)) <;> (try simp only [bs0, beq_iff_eq] at h) <;> try (exfalso; first | omega | exact h rfl; done)) | fail)
     all_goals first | exact joined (w_canon 60 [] [5, 7, 8, 11, 12, 13] hp rfl rfl rfl rfl) ⟨rfl, rfl⟩ | exact joined (w_canon 60 [] [5, 7, 8, 11, 12, 13] hp rfl rfl rfl rfl) ⟨by rw [dT (by omega)] <;> rfl, rfl⟩ | exact joined (w_canon 60 [] [5, 7, 8, 11, 12, 13] hp rfl rfl rfl rfl) ⟨by rw [dF (by omega)] <;> rfl, rfl⟩
   ·rintro env σ ⟨rfl, rfl⟩
    clear c2 c3 c4 c5 c6 c7 c8 c9 c10 c11 g1
    repeat' (first | refine goR rfl ?_ | refine goS rfl ?_ | refine tret1 rfl ?_ | refine tretN rfl ?_ | refine gY rfl rfl ?_ | refine gN rfl rfl ?_ | refine qT rfl rfl ?_ | refine qF rfl rfl ?_ | fail)
    refine loopS (fun m env σ => ∃ a b, ∃ w : Bool, s.bufs = a ++ b ∧ m = b.length ∧ w = (w0 && a.all fun l => l.all (enB N)) ∧ env = [(5, .p 0 0), (7, .p 1 0), (8, .p 2 0), (11, .p 8 0), (12, tI N), (13, tB w), (14, tI a.length)] ∧ σ = ⟨(0, .cells (cState s) ty_api_State) :: (1, .cells (cPrg p) ty_api_Prog) :: (tsM p u3 [a0] 2 ++ tsM p u3 [b0] 8), 60⟩) s.bufs.length (w_canon 60 [] [5, 7, 8, 11, 12, 13, 14] hp rfl rfl rfl rfl) ⟨[], s.bufs, w0, rfl, rfl, by simp, rfl, rfl⟩ ?_
    rintro m env σ ⟨a, b, w, e, rfl, hw, rfl, rfl⟩
    have hla : s.bufs.length = a.length + b.length := by rw [e, lA]
    cases b with
    | cons x b =>
     have hx : s.bufs[a.length]? = some x := by rw [e]; exact ix
     have hx12 := hs4 x (List.mem_of_getElem? hx)
     have hxm : (x.map cEntry).length = x.length := lM ..
     simp only [List.length_cons] at hla
     have hw1 : IntKind.i64.wrap ((a.length : Int) + 1) = ((a ++ [x]).length : Int) := by rw [w64 (by omega), lA]; rfl
     repeat' (first | refine goR rfl ?_ | refine goS rfl ?_ | refine tret1 rfl ?_ | refine tretN rfl ?_ | refine gY rfl rfl ?_ | refine gN rfl rfl ?_ | refine qT rfl rfl ?_ | refine qF rfl rfl ?_ | refine qT rfl (dT (by rw [lM]; omega)) ?_ | fail)
     refine loopS (fun m env σ => ∃ c d, ∃ v : Bool, x = c ++ d ∧ m = d.length ∧ v = (w && c.all (enB N)) ∧ env = [(5, .p 0 0), (7, .p 1 0), (8, .p 2 0), (11, .p 8 0), (12, tI N), (13, tB v), (14, tI a.length), (15, tI c.length)] ∧ σ = ⟨(0, .cells (cState s) ty_api_State) :: (1, .cells (cPrg p) ty_api_Prog) :: (tsM p u3 [a0] 2 ++ tsM p u3 [b0] 8), 60⟩) x.length (w_canon 60 [] [5, 7, 8, 11, 12, 13, 14, 15] hp rfl rfl rfl rfl) ⟨[], x, w, rfl, rfl, by simp, rfl, rfl⟩ ?_
     rintro m env σ ⟨c, d, v, e2, rfl, hv, rfl, rfl⟩
     have hlc : x.length = c.length + d.length := by rw [e2, lA]
     cases d with
     | nil =>
      rw [List.length_nil] at hlc
      rw [List.append_nil] at e2
      subst e2
      repeat' (first | refine goR rfl ?_ | refine goS rfl ?_ | refine tret1 rfl ?_ | refine tretN rfl ?_ | refine gY rfl rfl ?_ | refine gN rfl rfl ?_ | refine qT rfl rfl ?_ | refine qF rfl rfl ?_ | refine qF rfl (dF (by rw [lM]; omega)) ?_ | refine lT (tl_ixm rfl rfl rfl hx) ?_ | fail)
      refine again (m' := b.length) (Nat.lt_succ_self _) (w_canon 60 [] [5, 7, 8, 11, 12, 13, 14] hp rfl rfl rfl rfl) ⟨a ++ [x], b, v, by rw [e]; simp, rfl, by rw [List.all_append, ← Bool.and_assoc, ← hw, hv]; simp, by rw [hw1] <;> rfl, rfl⟩
     | cons y d =>
      have hy : x[c.length]? = some y := by rw [e2]; exact ix
      simp only [List.length_cons] at hlc
      have hw2 : IntKind.i64.wrap ((c.length : Int) + 1) = ((c ++ [y]).length : Int) := by rw [w64 (by omega), lA]; rfl
      cases v with
      | false =>
       repeat' (first | refine goR rfl ?_ | refine goS rfl ?_ | refine tret1 rfl ?_ | refine tretN rfl ?_ | refine gY rfl rfl ?_ | refine gN rfl rfl ?_ | refine qT rfl rfl ?_ | refine qF rfl rfl ?_ | refine qT rfl (dT (by rw [lM]; omega)) ?_ | refine lT (tl_ixm rfl rfl rfl hx) ?_ | refine lT (tl_ixm rfl rfl rfl hy) ?_ | fail)
       refine again (m' := d.length) (Nat.lt_succ_self _) (w_canon 60 [] [5, 7, 8, 11, 12, 13, 14, 15] hp rfl rfl rfl rfl) ⟨c ++ [y], d, false, by rw [e2]; simp, rfl, by rw [List.all_append, ← Bool.and_assoc, ← hv]; rfl, by rw [hw2] <;> rfl, rfl⟩
      | true =>
       by_cases y1 : 0 ≤ y.addr
       ·by_cases y2 : y.addr < N
        ·repeat' (first | refine goR rfl ?_ | refine goS rfl ?_ | refine tret1 rfl ?_ | refine tretN rfl ?_ | refine gY rfl rfl ?_ | refine gN rfl rfl ?_ | refine qT rfl rfl ?_ | refine qF rfl rfl ?_ | refine qT rfl (dT (by rw [lM]; omega)) ?_ | refine lT (tl_ixm rfl rfl rfl hx) ?_ | refine lT (tl_ixm rfl rfl rfl hy) ?_ | ((first | refine gS rfl (fun h => ?_) (fun h => ?_) | refine ts_cond rfl (fun h => ?_) (fun h => ?_)) <;> (try simp only [bs0, beq_iff_eq] at h) <;> try (exfalso; first | omega | exact h rfl; done)) | fail)
         all_goals refine again (m' := d.length) (Nat.lt_succ_self _) (w_canon 60 [] [5, 7, 8, 11, 12, 13, 14, 15] hp rfl rfl rfl rfl) ⟨c ++ [y], d, true, by rw [e2]; simp, rfl, by rw [List.all_append, ← Bool.and_assoc, ← hv]; simp [enB, y1, y2], by rw [hw2] <;> first | rfl | (rw [dT (by omega)] <;> rfl) | (rw [dF (by omega)] <;> rfl), rfl⟩
        ·repeat' (first | refine goR rfl ?_ | refine goS rfl ?_ | refine tret1 rfl ?_ | refine tretN rfl ?_ | refine gY rfl rfl ?_ | refine gN rfl rfl ?_ | refine qT rfl rfl ?_ | refine qF rfl rfl ?_ | refine qT rfl (dT (by rw [lM]; omega)) ?_ | refine lT (tl_ixm rfl rfl rfl hx) ?_ | refine lT (tl_ixm rfl rfl rfl hy) ?_ | ((first | refine gS rfl (fun h => ?_) (fun h => ?_) | refine ts_cond rfl (fun h => ?_) (fun h => ?_)) <;> (try simp only [bs0, beq_iff_eq] at h) <;> try (exfalso; first | omega | exact h rfl; done)) | fail)
         all_goals refine again (m' := d.length) (Nat.lt_succ_self _) (w_canon 60 [] [5, 7, 8, 11, 12, 13, 14, 15] hp rfl rfl rfl rfl) ⟨c ++ [y], d, false, by rw [e2]; simp, rfl, by rw [List.all_append, ← Bool.and_assoc, ← hv]; simp [enB, y2], by rw [hw2] <;> first | rfl | (rw [dT (by omega)] <;> rfl) | (rw [dF (by omega)] <;> rfl), rfl⟩
       ·repeat' (first | refine goR rfl ?_ | refine goS rfl ?_ | refine tret1 rfl ?_ | refine tretN rfl ?_ | refine gY rfl rfl ?_ | refine gN rfl rfl ?_ | refine qT rfl rfl ?_ | refine qF rfl rfl ?_ | refine qT rfl (dT (by rw [lM]; omega)) ?_ | refine lT (tl_ixm rfl rfl rfl hx) ?_ | refine lT (tl_ixm rfl rfl rfl hy) ?_ | ((first | refine gS rfl (fun h => ?_) (fun h => ?_) | refine ts_cond rfl (fun h => ?_) (fun h => ?_)) <;> (try simp only [bs0, beq_iff_eq] at h) <;> try (exfalso; first | omega | exact h rfl; done)) | fail)
        all_goals refine again (m' := d.length) (Nat.lt_succ_self _) (w_canon 60 [] [5, 7, 8, 11, 12, 13, 14, 15] hp rfl rfl rfl rfl) ⟨c ++ [y], d, false, by rw [e2]; simp, rfl, by rw [List.all_append, ← Bool.and_assoc, ← hv]; simp [enB, y1], by rw [hw2] <;> first | rfl | (rw [dT (by omega)] <;> rfl) | (rw [dF (by omega)] <;> rfl), rfl⟩
    | nil =>
     rw [List.length_nil] at hla
     rw [List.append_nil] at e
     rw [← e] at hw
     cases w with
     | true =>
      obtain ⟨k1, k2, k3, k4⟩ := goodT hw0 hw
      have c15 := t1 k1 k2 k3 (fun l hl => Nat.le_trans (hs4 l hl) (by decide)) (k1 ▸ k4)
      repeat' (first | refine goR rfl ?_ | refine goS rfl ?_ | refine tret1 rfl ?_ | refine tretN rfl ?_ | refine gY rfl rfl ?_ | refine gN rfl rfl ?_ | refine qT rfl rfl ?_ | refine qF rfl rfl ?_ | refine qF rfl (dF (by rw [lM]; omega)) ?_ | refine tr_mcallX hP hG (c12) rfl rfl rfl rfl rfl rfl rfl rfl rfl rfl rfl rfl ?_ | refine tr_mcallX hP hG (c13) rfl rfl rfl rfl rfl rfl rfl rfl rfl rfl rfl rfl ?_ | refine tr_callV hP hG (c14 _) rfl (by (repeat' first | exact FzL.nil | refine FzL.cons ?_ ?_ | exact Fz.fr rfl | exact Fz.nil _ | exact Fz.s _ _ _ _ _ _ rfl (lM ..).symm | exact Fz.s _ _ _ _ _ _ rfl rfl | refine Fz.pL rfl ?_ | refine Fz.aggL ?_); first | done | fail) rfl ?_ | fail)
      generalize hRs : atK p.threads.length s.bufs = Rs at c15
      have hRl : Rs.length ≤ 3 := by rw [← hRs, atK_len k3]; exact h3
      rcases rows3 hRl with rfl | ⟨_, rfl⟩ | ⟨_, _, rfl⟩ | ⟨_, _, _, rfl⟩
      all_goals
       repeat' (first | refine goR rfl ?_ | refine goS rfl ?_ | refine tret1 rfl ?_ | refine tretN rfl ?_ | refine gY rfl rfl ?_ | refine gN rfl rfl ?_ | refine qT rfl rfl ?_ | refine qF rfl rfl ?_ | refine tr_mcallX hP hG (c15) rfl rfl rfl rfl rfl rfl rfl rfl rfl rfl rfl rfl ?_ | refine lT (tl_eqb (by rw [hP]; exact ut_bool) rfl rfl) ?_ | refine cA rfl (by rw [hP, hG]; exact c0) rfl ?_ | fail)
       exact .fr rfl
     | false =>
      have c15 := t2 (fun l hl => Nat.le_trans (hs4 l hl) (by decide)) (goodF hw0 hw)
      repeat' (first | refine goR rfl ?_ | refine goS rfl ?_ | refine tret1 rfl ?_ | refine tretN rfl ?_ | refine gY rfl rfl ?_ | refine gN rfl rfl ?_ | refine qT rfl rfl ?_ | refine qF rfl rfl ?_ | refine qF rfl (dF (by rw [lM]; omega)) ?_ | refine tr_mcallX hP hG (c12) rfl rfl rfl rfl rfl rfl rfl rfl rfl rfl rfl rfl ?_ | refine tr_mcallX hP hG (c13) rfl rfl rfl rfl rfl rfl rfl rfl rfl rfl rfl rfl ?_ | refine tr_callV hP hG (c14 _) rfl (by (repeat' first | exact FzL.nil | refine FzL.cons ?_ ?_ | exact Fz.fr rfl | exact Fz.nil _ | exact Fz.s _ _ _ _ _ _ rfl (lM ..).symm | exact Fz.s _ _ _ _ _ _ rfl rfl | refine Fz.pL rfl ?_ | refine Fz.aggL ?_); first | done | fail) rfl ?_ | refine cA rfl (by rw [hP, hG]; exact c15) rfl ?_ | refine lT (tl_eqb (by rw [hP]; exact ut_bool) rfl rfl) ?_ | refine cA rfl (by rw [hP, hG]; exact c0) rfl ?_ | fail)
      exact .fr rfl
  ·rename_i a0 a1 x0 x1 b0 b1
   repeat' (first | refine goR rfl ?_ | refine goS rfl ?_ | refine tret1 rfl ?_ | refine tretN rfl ?_ | refine gY rfl rfl ?_ | refine gN rfl rfl ?_ | refine qT rfl rfl ?_ | refine qF rfl rfl ?_ | refine cA rfl (by rw [hP]; exact c1 _) rfl ?_ | refine tr_mcallX hP hG (c2) rfl rfl rfl rfl rfl rfl rfl rfl rfl rfl rfl rfl ?_ | refine cA rfl (by rw [hP]; exact g1 _) rfl ?_ | fail)
   refine tr_mcallX hP hG (c3) rfl rfl rfl rfl rfl rfl rfl rfl rfl rfl rfl rfl ?_
   refine tr_frzS 35 rfl rfl (lM ..).symm ?_
   repeat' (first | refine goR rfl ?_ | refine goS rfl ?_ | refine tret1 rfl ?_ | refine tretN rfl ?_ | refine gY rfl rfl ?_ | refine gN rfl rfl ?_ | refine qT rfl rfl ?_ | refine qF rfl rfl ?_ | refine lT (tl_slc (r := pa.map cPick) rfl rfl rfl ⟨by simp only [Option.getD_none]; omega, by simp only [Option.getD_some, Option.getD_none]; omega, by simp only [Option.getD_some]; omega⟩ hsl1) ?_ | refine tr_mcallX hP hG (c4) rfl rfl rfl rfl rfl rfl rfl rfl rfl rfl rfl rfl ?_ | refine tr_mcallX hP hG (c5) rfl rfl rfl rfl rfl rfl rfl rfl rfl rfl rfl rfl ?_ | fail)
   refine tr_frzA 46 0 rfl rfl rfl (lM ..).symm ?_
   refine tr_frzA 46 1 rfl rfl rfl (lM ..).symm ?_
   refine tr_frzA 46 2 rfl rfl rfl (lM ..).symm ?_
   repeat' (first | refine goR rfl ?_ | refine goS rfl ?_ | refine tret1 rfl ?_ | refine tretN rfl ?_ | refine gY rfl rfl ?_ | refine gN rfl rfl ?_ | refine qT rfl rfl ?_ | refine qF rfl rfl ?_ | refine tr_mcallX hP hG (c6) rfl rfl rfl rfl rfl rfl rfl rfl rfl rfl rfl rfl ?_ | refine tr_mcallX hP hG (c5) rfl rfl rfl rfl rfl rfl rfl rfl rfl rfl rfl rfl ?_ | refine tr_mcallX hP hG (c7) rfl rfl rfl rfl rfl rfl rfl rfl rfl rfl rfl rfl ?_ | refine tr_callV hP hG (c8 _) rfl (by (repeat' first | exact FzL.nil | refine FzL.cons ?_ ?_ | exact Fz.fr rfl | exact Fz.nil _ | exact Fz.s _ _ _ _ _ _ rfl (lM ..).symm | exact Fz.s _ _ _ _ _ _ rfl rfl | refine Fz.pL rfl ?_ | refine Fz.aggL ?_); first | done | fail) rfl ?_ | refine lT (tl_slc (r := pb.map cPick) rfl rfl rfl ⟨by simp only [Option.getD_some]; omega, by simp only [Option.getD_some, Option.getD_none]; omega, by simp only [Option.getD_none]; omega⟩ hsl2) ?_ | refine tr_mcallX hP hG (c9) rfl rfl rfl rfl rfl rfl rfl rfl rfl rfl rfl rfl ?_ | refine tr_mcallX hP hG (c10) rfl rfl rfl rfl rfl rfl rfl rfl rfl rfl rfl rfl ?_ | refine cA rfl (by rw [hP, hG]; exact c11) rfl ?_ | fail)
   refine joinR 0 (fun env σ => env = [(5, .p 0 0), (7, .p 1 0), (8, .p 2 0), (11, .p 10 0), (12, tI N), (13, tB w0)] ∧ σ = ⟨(0, .cells (cState s) ty_api_State) :: (1, .cells (cPrg p) ty_api_Prog) :: (tsM p u3 [a0, a1] 2 ++ tsM p u3 [b0, b1] 10), 60⟩) rfl ?_ ?_
   ·by_cases k1 : s.mem.length = N
    ·by_cases k2 : s.thr.length = p.threads.length
     ·by_cases k3 : s.bufs.length ≤ p.threads.length
      ·obtain rfl : w0 = true := by rw [hw0, dT k1, dT k2, dT k3]; rfl
       repeat' (first | refine goR rfl ?_ | refine goS rfl ?_ | refine tret1 rfl ?_ | refine tretN rfl ?_ | refine gY rfl rfl ?_ | refine gN rfl rfl ?_ | refine qT rfl rfl ?_ | refine qF rfl rfl ?_ | ((first | refine gS rfl (fun h => ?_) (fun h => ?_) | refine ts_cond rfl (fun h => ?_) (fun h => ?_)) <;> (try simp only [bs0, beq_iff_eq] at h) <;> try (exfalso; first | omega | exact h rfl; done)) | fail)
       all_goals first | exact joined (w_canon 60 [] [5, 7, 8, 11, 12, 13] hp rfl rfl rfl rfl) ⟨rfl, rfl⟩ | exact joined (w_canon 60 [] [5, 7, 8, 11, 12, 13] hp rfl rfl rfl rfl) ⟨by rw [dT (by omega)] <;> rfl, rfl⟩ | exact joined (w_canon 60 [] [5, 7, 8, 11, 12, 13] hp rfl rfl rfl rfl) ⟨by rw [dF (by omega)] <;> rfl, rfl⟩
      ·obtain rfl : w0 = false := by rw [hw0, dT k1, dT k2, dF k3]; rfl
       repeat' (first | refine goR rfl ?_ | refine goS rfl ?_ | refine tret1 rfl ?_ | refine tretN rfl ?_ | refine gY rfl rfl ?_ | refine gN rfl rfl ?_ | refine qT rfl rfl ?_ | refine qF rfl rfl ?_ | ((first | refine gS rfl (fun h => ?_) (fun h => ?_) | refine ts_cond rfl (fun h => ?_) (fun h => ?_)) <;> (try simp only [bs0, beq_iff_eq] at h) <;> try (exfalso; first | omega | exact h rfl; done)) | fail)
       all_goals first | exact joined (w_canon 60 [] [5, 7, 8, 11, 12, 13] hp rfl rfl rfl rfl) ⟨rfl, rfl⟩ | exact joined (w_canon 60 [] [5, 7, 8, 11, 12, 13] hp rfl rfl rfl rfl) ⟨by rw [dT (by omega)] <;> rfl, rfl⟩ | exact joined (w_canon 60 [] [5, 7, 8, 11, 12, 13] hp rfl rfl rfl rfl) ⟨by rw [dF (by omega)] <;> rfl, rfl⟩
     ·obtain rfl : w0 = false := by rw [hw0, dT k1, dF k2]; rfl
      repeat' (first | refine goR rfl ?_ | refine goS rfl ?_ | refine tret1 rfl ?_ | refine tretN rfl ?_ | refine gY rfl rfl ?_ | refine gN rfl rfl ?_ | refine qT rfl rfl ?_ | refine qF rfl rfl ?_ | ((first | refine gS rfl (fun h => ?_) (fun h => ?_) | refine ts_cond rfl (fun h => ?_) (fun h => ?_)) <;> (try simp only [bs0, beq_iff_eq] at h) <;> try (exfalso; first | omega | exact h rfl; done)) | fail)
      all_goals first | exact joined (w_canon 60 [] [5, 7, 8, 11, 12, 13] hp rfl rfl rfl rfl) ⟨rfl, rfl⟩ | exact joined (w_canon 60 [] [5, 7, 8, 11, 12, 13] hp rfl rfl rfl rfl) ⟨by rw [dT (by omega)] <;> rfl, rfl⟩ | exact joined (w_canon 60 [] [5, 7, 8, 11, 12, 13] hp rfl rfl rfl rfl) ⟨by rw [dF (by omega)] <;> rfl, rfl⟩
    ·obtain rfl : w0 = false := by rw [hw0, dF k1]; rfl
     repeat' (first | refine goR rfl ?_ | refine goS rfl ?_ | refine tret1 rfl ?_ | refine tretN rfl ?_ | refine gY rfl rfl ?_ | refine gN rfl rfl ?_ | refine qT rfl rfl ?_ | refine qF rfl rfl ?_ | ((first | refine gS rfl (fun h => ?_) (fun h => ?_) | refine ts_cond rfl (fun h => ?_) (fun h => ?_)) <;> (try simp only [bs0, beq_iff_eq] at h) <;> try (exfalso; first | omega | exact h rfl; done)) | fail)
     all_goals first | exact joined (w_canon 60 [] [5, 7, 8, 11, 12, 13] hp rfl rfl rfl rfl) ⟨rfl, rfl⟩ | exact joined (w_canon 60 [] [5, 7, 8, 11, 12, 13] hp rfl rfl rfl rfl) ⟨by rw [dT (by omega)] <;> rfl, rfl⟩ | exact joined (w_canon 60 [] [5, 7, 8, 11, 12, 13] hp rfl rfl rfl rfl) ⟨by rw [dF (by omega)] <;> rfl, rfl⟩
   ·rintro env σ ⟨rfl, rfl⟩
    clear c2 c3 c4 c5 c6 c7 c8 c9 c10 c11 g1
    repeat' (first | refine goR rfl ?_ | refine goS rfl ?_ | refine tret1 rfl ?_ | refine tretN rfl ?_ | refine gY rfl rfl ?_ | refine gN rfl rfl ?_ | refine qT rfl rfl ?_ | refine qF rfl rfl ?_ | fail)
    refine loopS (fun m env σ => ∃ a b, ∃ w : Bool, s.bufs = a ++ b ∧ m = b.length ∧ w = (w0 && a.all fun l => l.all (enB N)) ∧ env = [(5, .p 0 0), (7, .p 1 0), (8, .p 2 0), (11, .p 10 0), (12, tI N), (13, tB w), (14, tI a.length)] ∧ σ = ⟨(0, .cells (cState s) ty_api_State) :: (1, .cells (cPrg p) ty_api_Prog) :: (tsM p u3 [a0, a1] 2 ++ tsM p u3 [b0, b1] 10), 60⟩) s.bufs.length (w_canon 60 [] [5, 7, 8, 11, 12, 13, 14] hp rfl rfl rfl rfl) ⟨[], s.bufs, w0, rfl, rfl, by simp, rfl, rfl⟩ ?_
    rintro m env σ ⟨a, b, w, e, rfl, hw, rfl, rfl⟩
    have hla : s.bufs.length = a.length + b.length := by rw [e, lA]
    cases b with
    | cons x b =>
     have hx : s.bufs[a.length]? = some x := by rw [e]; exact ix
     have hx12 := hs4 x (List.mem_of_getElem? hx)
     have hxm : (x.map cEntry).length = x.length := lM ..
     simp only [List.length_cons] at hla
     have hw1 : IntKind.i64.wrap ((a.length : Int) + 1) = ((a ++ [x]).length : Int) := by rw [w64 (by omega), lA]; rfl
     repeat' (first | refine goR rfl ?_ | refine goS rfl ?_ | refine tret1 rfl ?_ | refine tretN rfl ?_ | refine gY rfl rfl ?_ | refine gN rfl rfl ?_ | refine qT rfl rfl ?_ | refine qF rfl rfl ?_ | refine qT rfl (dT (by rw [lM]; omega)) ?_ | fail)
     refine loopS (fun m env σ => ∃ c d, ∃ v : Bool, x = c ++ d ∧ m = d.length ∧ v = (w && c.all (enB N)) ∧ env = [(5, .p 0 0), (7, .p 1 0), (8, .p 2 0), (11, .p 10 0), (12, tI N), (13, tB v), (14, tI a.length), (15, tI c.length)] ∧ σ = ⟨(0, .cells (cState s) ty_api_State) :: (1, .cells (cPrg p) ty_api_Prog) :: (tsM p u3 [a0, a1] 2 ++ tsM p u3 [b0, b1] 10), 60⟩) x.length (w_canon 60 [] [5, 7, 8, 11, 12, 13, 14, 15] hp rfl rfl rfl rfl) ⟨[], x, w, rfl, rfl, by simp, rfl, rfl⟩ ?_
     rintro m env σ ⟨c, d, v, e2, rfl, hv, rfl, rfl⟩
     have hlc : x.length = c.length + d.length := by rw [e2, lA]
     cases d with
     | nil =>
      rw [List.length_nil] at hlc
      rw [List.append_nil] at e2
      subst e2
      repeat' (first | refine goR rfl ?_ | refine goS rfl ?_ | refine tret1 rfl ?_ | refine tretN rfl ?_ | refine gY rfl rfl ?_ | refine gN rfl rfl ?_ | refine qT rfl rfl ?_ | refine qF rfl rfl ?_ | refine qF rfl (dF (by rw [lM]; omega)) ?_ | refine lT (tl_ixm rfl rfl rfl hx) ?_ | fail)
      refine again (m' := b.length) (Nat.lt_succ_self _) (w_canon 60 [] [5, 7, 8, 11, 12, 13, 14] hp rfl rfl rfl rfl) ⟨a ++ [x], b, v, by rw [e]; simp, rfl, by rw [List.all_append, ← Bool.and_assoc, ← hw, hv]; simp, by rw [hw1] <;> rfl, rfl⟩
     | cons y d =>
      have hy : x[c.length]? = some y := by rw [e2]; exact ix
      simp only [List.length_cons] at hlc
      have hw2 : IntKind.i64.wrap ((c.length : Int) + 1) = ((c ++ [y]).length : Int) := by rw [w64 (by omega), lA]; rfl
      cases v with
      | false =>
       repeat' (first | refine goR rfl ?_ | refine goS rfl ?_ | refine tret1 rfl ?_ | refine tretN rfl ?_ | refine gY rfl rfl ?_ | refine gN rfl rfl ?_ | refine qT rfl rfl ?_ | refine qF rfl rfl ?_ | refine qT rfl (dT (by rw [lM]; omega)) ?_ | refine lT (tl_ixm rfl rfl rfl hx) ?_ | refine lT (tl_ixm rfl rfl rfl hy) ?_ | fail)
       refine again (m' := d.length) (Nat.lt_succ_self _) (w_canon 60 [] [5, 7, 8, 11, 12, 13, 14, 15] hp rfl rfl rfl rfl) ⟨c ++ [y], d, false, by rw [e2]; simp, rfl, by rw [List.all_append, ← Bool.and_assoc, ← hv]; rfl, by rw [hw2] <;> rfl, rfl⟩
      | true =>
       by_cases y1 : 0 ≤ y.addr
       ·by_cases y2 : y.addr < N
        ·repeat' (first | refine goR rfl ?_ | refine goS rfl ?_ | refine tret1 rfl ?_ | refine tretN rfl ?_ | refine gY rfl rfl ?_ | refine gN rfl rfl ?_ | refine qT rfl rfl ?_ | refine qF rfl rfl ?_ | refine qT rfl (dT (by rw [lM]; omega)) ?_ | refine lT (tl_ixm rfl rfl rfl hx) ?_ | refine lT (tl_ixm rfl rfl rfl hy) ?_ | ((first | refine gS rfl (fun h => ?_) (fun h => ?_) | refine ts_cond rfl (fun h => ?_) (fun h => ?_)) <;> (try simp only [bs0, beq_iff_eq] at h) <;> try (exfalso; first | omega | exact h rfl; done)) | fail)
         all_goals refine again (m' := d.length) (Nat.lt_succ_self _) (w_canon 60 [] [5, 7, 8, 11, 12, 13, 14, 15] hp rfl rfl rfl rfl) ⟨c ++ [y], d, true, by rw [e2]; simp, rfl, by rw [List.all_append, ← Bool.and_assoc, ← hv]; simp [enB, y1, y2], by rw [hw2] <;> first | rfl | (rw [dT (by omega)] <;> rfl) | (rw [dF (by omega)] <;> rfl), rfl⟩
        ·repeat' (first | refine goR rfl ?_ | refine goS rfl ?_ | refine tret1 rfl ?_ | refine tretN rfl ?_ | refine gY rfl rfl ?_ | refine gN rfl rfl ?_ | refine qT rfl rfl ?_ | refine qF rfl rfl ?_ | refine qT rfl (dT (by rw [lM]; omega)) ?_ | refine lT (tl_ixm rfl rfl rfl hx) ?_ | refine lT (tl_ixm rfl rfl rfl hy) ?_ | ((first | refine gS rfl (fun h => ?_) (fun h => ?_) | refine ts_cond rfl (fun h => ?_) (fun h => ?_)) <;> (try simp only [bs0, beq_iff_eq] at h) <;> try (exfalso; first | omega | exact h rfl; done)) | fail)
         all_goals refine again (m' := d.length) (Nat.lt_succ_self _) (w_canon 60 [] [5, 7, 8, 11, 12, 13, 14, 15] hp rfl rfl rfl rfl) ⟨c ++ [y], d, false, by rw [e2]; simp, rfl, by rw [List.all_append, ← Bool.and_assoc, ← hv]; simp [enB, y2], by rw [hw2] <;> first | rfl | (rw [dT (by omega)] <;> rfl) | (rw [dF (by omega)] <;> rfl), rfl⟩
       ·repeat' (first | refine goR rfl ?_ | refine goS rfl ?_ | refine tret1 rfl ?_ | refine tretN rfl ?_ | refine gY rfl rfl ?_ | refine gN rfl rfl ?_ | refine qT rfl rfl ?_ | refine qF rfl rfl ?_ | refine qT rfl (dT (by rw [lM]; omega)) ?_ | refine lT (tl_ixm rfl rfl rfl hx) ?_ | refine lT (tl_ixm rfl rfl rfl hy) ?_ | ((first | refine gS rfl (fun h => ?_) (fun h => ?_) | refine ts_cond rfl (fun h => ?_) (fun h => ?_)) <;> (try simp only [bs0, beq_iff_eq] at h) <;> try (exfalso; first | omega | exact h rfl; done)) | fail)
        all_goals refine again (m' := d.length) (Nat.lt_succ_self _) (w_canon 60 [] [5, 7, 8, 11, 12, 13, 14, 15] hp rfl rfl rfl rfl) ⟨c ++ [y], d, false, by rw [e2]; simp, rfl, by rw [List.all_append, ← Bool.and_assoc, ← hv]; simp [enB, y1], by rw [hw2] <;> first | rfl | (rw [dT (by omega)] <;> rfl) | (rw [dF (by omega)] <;> rfl), rfl⟩
    | nil =>
     rw [List.length_nil] at hla
     rw [List.append_nil] at e
     rw [← e] at hw
     cases w with
     | true =>
      obtain ⟨k1, k2, k3, k4⟩ := goodT hw0 hw
      have c15 := t1 k1 k2 k3 (fun l hl => Nat.le_trans (hs4 l hl) (by decide)) (k1 ▸ k4)
      repeat' (first | refine goR rfl ?_ | refine goS rfl ?_ | refine tret1 rfl ?_ | refine tretN rfl ?_ | refine gY rfl rfl ?_ | refine gN rfl rfl ?_ | refine qT rfl rfl ?_ | refine qF rfl rfl ?_ | refine qF rfl (dF (by rw [lM]; omega)) ?_ | refine tr_mcallX hP hG (c12) rfl rfl rfl rfl rfl rfl rfl rfl rfl rfl rfl rfl ?_ | refine tr_mcallX hP hG (c13) rfl rfl rfl rfl rfl rfl rfl rfl rfl rfl rfl rfl ?_ | refine tr_callV hP hG (c14 _) rfl (by (repeat' first | exact FzL.nil | refine FzL.cons ?_ ?_ | exact Fz.fr rfl | exact Fz.nil _ | exact Fz.s _ _ _ _ _ _ rfl (lM ..).symm | exact Fz.s _ _ _ _ _ _ rfl rfl | refine Fz.pL rfl ?_ | refine Fz.aggL ?_); first | done | fail) rfl ?_ | fail)
      generalize hRs : atK p.threads.length s.bufs = Rs at c15
      have hRl : Rs.length ≤ 3 := by rw [← hRs, atK_len k3]; exact h3
      rcases rows3 hRl with rfl | ⟨_, rfl⟩ | ⟨_, _, rfl⟩ | ⟨_, _, _, rfl⟩
      all_goals
       repeat' (first | refine goR rfl ?_ | refine goS rfl ?_ | refine tret1 rfl ?_ | refine tretN rfl ?_ | refine gY rfl rfl ?_ | refine gN rfl rfl ?_ | refine qT rfl rfl ?_ | refine qF rfl rfl ?_ | refine tr_mcallX hP hG (c15) rfl rfl rfl rfl rfl rfl rfl rfl rfl rfl rfl rfl ?_ | refine lT (tl_eqb (by rw [hP]; exact ut_bool) rfl rfl) ?_ | refine cA rfl (by rw [hP, hG]; exact c0) rfl ?_ | fail)
       exact .fr rfl
     | false =>
      have c15 := t2 (fun l hl => Nat.le_trans (hs4 l hl) (by decide)) (goodF hw0 hw)
      repeat' (first | refine goR rfl ?_ | refine goS rfl ?_ | refine tret1 rfl ?_ | refine tretN rfl ?_ | refine gY rfl rfl ?_ | refine gN rfl rfl ?_ | refine qT rfl rfl ?_ | refine qF rfl rfl ?_ | refine qF rfl (dF (by rw [lM]; omega)) ?_ | refine tr_mcallX hP hG (c12) rfl rfl rfl rfl rfl rfl rfl rfl rfl rfl rfl rfl ?_ | refine tr_mcallX hP hG (c13) rfl rfl rfl rfl rfl rfl rfl rfl rfl rfl rfl rfl ?_ | refine tr_callV hP hG (c14 _) rfl (by (repeat' first | exact FzL.nil | refine FzL.cons ?_ ?_ | exact Fz.fr rfl | exact Fz.nil _ | exact Fz.s _ _ _ _ _ _ rfl (lM ..).symm | exact Fz.s _ _ _ _ _ _ rfl rfl | refine Fz.pL rfl ?_ | refine Fz.aggL ?_); first | done | fail) rfl ?_ | refine cA rfl (by rw [hP, hG]; exact c15) rfl ?_ | refine lT (tl_eqb (by rw [hP]; exact ut_bool) rfl rfl) ?_ | refine cA rfl (by rw [hP, hG]; exact c0) rfl ?_ | fail)
      exact .fr rfl
  ·rename_i a0 a1 a2 x0 x1 x2 b0 b1 b2
   repeat' (first | refine goR rfl ?_ | refine goS rfl ?_ | refine tret1 rfl ?_ | refine tretN rfl ?_ | refine gY rfl rfl ?_ | refine gN rfl rfl ?_ | refine qT rfl rfl ?_ | refine qF rfl rfl ?_ | refine cA rfl (by rw [hP]; exact c1 _) rfl ?_ | refine tr_mcallX hP hG (c2) rfl rfl rfl rfl rfl rfl rfl rfl rfl rfl rfl rfl ?_ | refine cA rfl (by rw [hP]; exact g1 _) rfl ?_ | fail)
   refine tr_mcallX hP hG (c3) rfl rfl rfl rfl rfl rfl rfl rfl rfl rfl rfl rfl ?_
   refine tr_frzS 35 rfl rfl (lM ..).symm ?_
   repeat' (first | refine goR rfl ?_ | refine goS rfl ?_ | refine tret1 rfl ?_ | refine tretN rfl ?_ | refine gY rfl rfl ?_ | refine gN rfl rfl ?_ | refine qT rfl rfl ?_ | refine qF rfl rfl ?_ | refine lT (tl_slc (r := pa.map cPick) rfl rfl rfl ⟨by simp only [Option.getD_none]; omega, by simp only [Option.getD_some, Option.getD_none]; omega, by simp only [Option.getD_some]; omega⟩ hsl1) ?_ | refine tr_mcallX hP hG (c4) rfl rfl rfl rfl rfl rfl rfl rfl rfl rfl rfl rfl ?_ | refine tr_mcallX hP hG (c5) rfl rfl rfl rfl rfl rfl rfl rfl rfl rfl rfl rfl ?_ | fail)
   refine tr_frzA 46 0 rfl rfl rfl (lM ..).symm ?_
   refine tr_frzA 46 1 rfl rfl rfl (lM ..).symm ?_
   refine tr_frzA 46 2 rfl rfl rfl (lM ..).symm ?_
   repeat' (first | refine goR rfl ?_ | refine goS rfl ?_ | refine tret1 rfl ?_ | refine tretN rfl ?_ | refine gY rfl rfl ?_ | refine gN rfl rfl ?_ | refine qT rfl rfl ?_ | refine qF rfl rfl ?_ | refine tr_mcallX hP hG (c6) rfl rfl rfl rfl rfl rfl rfl rfl rfl rfl rfl rfl ?_ | refine tr_mcallX hP hG (c5) rfl rfl rfl rfl rfl rfl rfl rfl rfl rfl rfl rfl ?_ | refine tr_mcallX hP hG (c7) rfl rfl rfl rfl rfl rfl rfl rfl rfl rfl rfl rfl ?_ | refine tr_callV hP hG (c8 _) rfl (by (repeat' first | exact FzL.nil | refine FzL.cons ?_ ?_ | exact Fz.fr rfl | exact Fz.nil _ | exact Fz.s _ _ _ _ _ _ rfl (lM ..).symm | exact Fz.s _ _ _ _ _ _ rfl rfl | refine Fz.pL rfl ?_ | refine Fz.aggL ?_); first | done | fail) rfl ?_ | refine lT (tl_slc (r := pb.map cPick) rfl rfl rfl ⟨by simp only [Option.getD_some]; omega, by simp only [Option.getD_some, Option.getD_none]; omega, by simp only [Option.getD_none]; omega⟩ hsl2) ?_ | refine tr_mcallX hP hG (c9) rfl rfl rfl rfl rfl rfl rfl rfl rfl rfl rfl rfl ?_ | refine tr_mcallX hP hG (c10) rfl rfl rfl rfl rfl rfl rfl rfl rfl rfl rfl rfl ?_ | refine cA rfl (by rw [hP, hG]; exact c11) rfl ?_ | fail)
   refine joinR 0 (fun env σ => env = [(5, .p 0 0), (7, .p 1 0), (8, .p 2 0), (11, .p 12 0), (12, tI N), (13, tB w0)] ∧ σ = ⟨(0, .cells (cState s) ty_api_State) :: (1, .cells (cPrg p) ty_api_Prog) :: (tsM p u3 [a0, a1, a2] 2 ++ tsM p u3 [b0, b1, b2] 12), 60⟩) rfl ?_ ?_
   ·by_cases k1 : s.mem.length = N
    ·by_cases k2 : s.thr.length = p.threads.length
     ·by_cases k3 : s.bufs.length ≤ p.threads.length
      ·obtain rfl : w0 = true := by rw [hw0, dT k1, dT k2, dT k3]; rfl
       repeat' (first | refine goR rfl ?_ | refine goS rfl ?_ | refine tret1 rfl ?_ | refine tretN rfl ?_ | refine gY rfl rfl ?_ | refine gN rfl rfl ?_ | refine qT rfl rfl ?_ | refine qF rfl rfl ?_ | ((first | refine gS rfl (fun h => ?_) (fun h => ?_) | refine ts_cond rfl (fun h => ?_) (fun h => ?_)) <;> (try simp only [bs0, beq_iff_eq] at h) <;> try (exfalso; first | omega | exact h rfl; done)) | fail)
       all_goals first | exact joined (w_canon 60 [] [5, 7, 8, 11, 12, 13] hp rfl rfl rfl rfl) ⟨rfl, rfl⟩ | exact joined (w_canon 60 [] [5, 7, 8, 11, 12, 13] hp rfl rfl rfl rfl) ⟨by rw [dT (by omega)] <;> rfl, rfl⟩ | exact joined (w_canon 60 [] [5, 7, 8, 11, 12, 13] hp rfl rfl rfl rfl) ⟨by rw [dF (by omega)] <;> rfl, rfl⟩
      ·obtain rfl : w0 = false := by rw [hw0, dT k1, dT k2, dF k3]; rfl
       repeat' (first | refine goR rfl ?_ | refine goS rfl ?_ | refine tret1 rfl ?_ | refine tretN rfl ?_ | refine gY rfl rfl ?_ | refine gN rfl rfl ?_ | refine qT rfl rfl ?_ | refine qF rfl rfl ?_ | ((first | refine gS rfl (fun h => ?_) (fun h => ?_) | refine ts_cond rfl (fun h => ?_) (fun h => ?_)) <;> (try simp only [bs0, beq_iff_eq] at h) <;> try (exfalso; first | omega | exact h rfl; done)) | fail)
       all_goals first | exact joined (w_canon 60 [] [5, 7, 8, 11, 12, 13] hp rfl rfl rfl rfl) ⟨rfl, rfl⟩ | exact joined (w_canon 60 [] [5, 7, 8, 11, 12, 13] hp rfl rfl rfl rfl) ⟨by rw [dT (by omega)] <;> rfl, rfl⟩ | exact joined (w_canon 60 [] [5, 7, 8, 11, 12, 13] hp rfl rfl rfl rfl) ⟨by rw [dF (by omega)] <;> rfl, rfl⟩
     ·obtain rfl : w0 = false := by rw [hw0, dT k1, dF k2]; rfl
      repeat' (first | refine goR rfl ?_ | refine goS rfl ?_ | refine tret1 rfl ?_ | refine tretN rfl ?_ | refine gY rfl rfl ?_ | refine gN rfl rfl ?_ | refine qT rfl rfl ?_ | refine qF rfl rfl ?_ | ((first | refine gS rfl (fun h => ?_) (fun h => ?_) | refine ts_cond rfl (fun h => ?_) (fun h => ?_)) <;> (try simp only [bs0, beq_iff_eq] at h) <;> try (exfalso; first | omega | exact h rfl; done)) | fail)
      all_goals first | exact joined (w_canon 60 [] [5, 7, 8, 11, 12, 13] hp rfl rfl rfl rfl) ⟨rfl, rfl⟩ | exact joined (w_canon 60 [] [5, 7, 8, 11, 12, 13] hp rfl rfl rfl rfl) ⟨by rw [dT (by omega)] <;> rfl, rfl⟩ | exact joined (w_canon 60 [] [5, 7, 8, 11, 12, 13] hp rfl rfl rfl rfl) ⟨by rw [dF (by omega)] <;> rfl, rfl⟩
    ·obtain rfl : w0 = false := by rw [hw0, dF k1]; rfl
     repeat' (first | refine goR rfl ?_ | refine goS rfl ?_ | refine tret1 rfl ?_ | refine tretN rfl ?_ | refine gY rfl rfl ?_ | refine gN rfl rfl ?_ | refine qT rfl rfl ?_ | refine qF rfl rfl ?_ | ((first | refine gS rfl (fun h => ?_) (fun h => ?_) | refine ts_cond rfl (fun h => ?_) (fun h => ?_)) <;> (try simp only [bs0, beq_iff_eq] at h) <;> try (exfalso; first | omega | exact h rfl; done)) | fail)
     all_goals first | exact joined (w_canon 60 [] [5, 7, 8, 11, 12, 13] hp rfl rfl rfl rfl) ⟨rfl, rfl⟩ | exact joined (w_canon 60 [] [5, 7, 8, 11, 12, 13] hp rfl rfl rfl rfl) ⟨by rw [dT (by omega)] <;> rfl, rfl⟩ | exact joined (w_canon 60 [] [5, 7, 8, 11, 12, 13] hp rfl rfl rfl rfl) ⟨by rw [dF (by omega)] <;> rfl, rfl⟩
   ·rintro env σ ⟨rfl, rfl⟩
    clear c2 c3 c4 c5 c6 c7 c8 c9 c10 c11 g1
    repeat' (first | refine goR rfl ?_ | refine goS rfl ?_ | refine tret1 rfl ?_ | refine tretN rfl ?_ | refine gY rfl rfl ?_ | refine gN rfl rfl ?_ | refine qT rfl rfl ?_ | refine qF rfl rfl ?_ | fail)
    refine loopS (fun m env σ => ∃ a b, ∃ w : Bool, s.bufs = a ++ b ∧ m = b.length ∧ w = (w0 && a.all fun l => l.all (enB N)) ∧ env = [(5, .p 0 0), (7, .p 1 0), (8, .p 2 0), (11, .p 12 0), (12, tI N), (13, tB w), (14, tI a.length)] ∧ σ = ⟨(0, .cells (cState s) ty_api_State) :: (1, .cells (cPrg p) ty_api_Prog) :: (tsM p u3 [a0, a1, a2] 2 ++ tsM p u3 [b0, b1, b2] 12), 60⟩) s.bufs.length (w_canon 60 [] [5, 7, 8, 11, 12, 13, 14] hp rfl rfl rfl rfl) ⟨[], s.bufs, w0, rfl, rfl, by simp, rfl, rfl⟩ ?_
    rintro m env σ ⟨a, b, w, e, rfl, hw, rfl, rfl⟩
    have hla : s.bufs.length = a.length + b.length := by rw [e, lA]
    cases b with
    | cons x b =>
     have hx : s.bufs[a.length]? = some x := by rw [e]; exact ix
     have hx12 := hs4 x (List.mem_of_getElem? hx)
     have hxm : (x.map cEntry).length = x.length := lM ..
     simp only [List.length_cons] at hla
     have hw1 : IntKind.i64.wrap ((a.length : Int) + 1) = ((a ++ [x]).length : Int) := by rw [w64 (by omega), lA]; rfl
     repeat' (first | refine goR rfl ?_ | refine goS rfl ?_ | refine tret1 rfl ?_ | refine tretN rfl ?_ | refine gY rfl rfl ?_ | refine gN rfl rfl ?_ | refine qT rfl rfl ?_ | refine qF rfl rfl ?_ | refine qT rfl (dT (by rw [lM]; omega)) ?_ | fail)
     refine loopS (fun m env σ => ∃ c d, ∃ v : Bool, x = c ++ d ∧ m = d.length ∧ v = (w && c.all (enB N)) ∧ env = [(5, .p 0 0), (7, .p 1 0), (8, .p 2 0), (11, .p 12 0), (12, tI N), (13, tB v), (14, tI a.length), (15, tI c.length)] ∧ σ = ⟨(0, .cells (cState s) ty_api_State) :: (1, .cells (cPrg p) ty_api_Prog) :: (tsM p u3 [a0, a1, a2] 2 ++ tsM p u3 [b0, b1, b2] 12), 60⟩) x.length (w_canon 60 [] [5, 7, 8, 11, 12, 13, 14, 15] hp rfl rfl rfl rfl) ⟨[], x, w, rfl, rfl, by simp, rfl, rfl⟩ ?_
     rintro m env σ ⟨c, d, v, e2, rfl, hv, rfl, rfl⟩
     have hlc : x.length = c.length + d.length := by rw [e2, lA]
     cases d with
     | nil =>
      rw [List.length_nil] at hlc
      rw [List.append_nil] at e2
      subst e2
      repeat' (first | refine goR rfl ?_ | refine goS rfl ?_ | refine tret1 rfl ?_ | refine tretN rfl ?_ | refine gY rfl rfl ?_ | refine gN rfl rfl ?_ | refine qT rfl rfl ?_ | refine qF rfl rfl ?_ | refine qF rfl (dF (by rw [lM]; omega)) ?_ | refine lT (tl_ixm rfl rfl rfl hx) ?_ | fail)
      refine again (m' := b.length) (Nat.lt_succ_self _) (w_canon 60 [] [5, 7, 8, 11, 12, 13, 14] hp rfl rfl rfl rfl) ⟨a ++ [x], b, v, by rw [e]; simp, rfl, by rw [List.all_append, ← Bool.and_assoc, ← hw, hv]; simp, by rw [hw1] <;> rfl, rfl⟩
     | cons y d =>
      have hy : x[c.length]? = some y := by rw [e2]; exact ix
      simp only [List.length_cons] at hlc
      have hw2 : IntKind.i64.wrap ((c.length : Int) + 1) = ((c ++ [y]).length : Int) := by rw [w64 (by omega), lA]; rfl
      cases v with
      | false =>
       repeat' (first | refine goR rfl ?_ | refine goS rfl ?_ | refine tret1 rfl ?_ | refine tretN rfl ?_ | refine gY rfl rfl ?_ | refine gN rfl rfl ?_ | refine qT rfl rfl ?_ | refine qF rfl rfl ?_ | refine qT rfl (dT (by rw [lM]; omega)) ?_ | refine lT (tl_ixm rfl rfl rfl hx) ?_ | refine lT (tl_ixm rfl rfl rfl hy) ?_ | fail)
       refine again (m' := d.length) (Nat.lt_succ_self _) (w_canon 60 [] [5, 7, 8, 11, 12, 13, 14, 15] hp rfl rfl rfl rfl) ⟨c ++ [y], d, false, by rw [e2]; simp, rfl, by rw [List.all_append, ← Bool.and_assoc, ← hv]; rfl, by rw [hw2] <;> rfl, rfl⟩
      | true =>
       by_cases y1 : 0 ≤ y.addr
       ·by_cases y2 : y.addr < N
        ·repeat' (first | refine goR rfl ?_ | refine goS rfl ?_ | refine tret1 rfl ?_ | refine tretN rfl ?_ | refine gY rfl rfl ?_ | refine gN rfl rfl ?_ | refine qT rfl rfl ?_ | refine qF rfl rfl ?_ | refine qT rfl (dT (by rw [lM]; omega)) ?_ | refine lT (tl_ixm rfl rfl rfl hx) ?_ | refine lT (tl_ixm rfl rfl rfl hy) ?_ | ((first | refine gS rfl (fun h => ?_) (fun h => ?_) | refine ts_cond rfl (fun h => ?_) (fun h => ?_)) <;> (try simp only [bs0, beq_iff_eq] at h) <;> try (exfalso; first | omega | exact h rfl; done)) | fail)
         all_goals refine again (m' := d.length) (Nat.lt_succ_self _) (w_canon 60 [] [5, 7, 8, 11, 12, 13, 14, 15] hp rfl rfl rfl rfl) ⟨c ++ [y], d, true, by rw [e2]; simp, rfl, by rw [List.all_append, ← Bool.and_assoc, ← hv]; simp [enB, y1, y2], by rw [hw2] <;> first | rfl | (rw [dT (by omega)] <;> rfl) | (rw [dF (by omega)] <;> rfl), rfl⟩
        ·repeat' (first | refine goR rfl ?_ | refine goS rfl ?_ | refine tret1 rfl ?_ | refine tretN rfl ?_ | refine gY rfl rfl ?_ | refine gN rfl rfl ?_ | refine qT rfl rfl ?_ | refine qF rfl rfl ?_ | refine qT rfl (dT (by rw [lM]; omega)) ?_ | refine lT (tl_ixm rfl rfl rfl hx) ?_ | refine lT (tl_ixm rfl rfl rfl hy) ?_ | ((first | refine gS rfl (fun h => ?_) (fun h => ?_) | refine ts_cond rfl (fun h => ?_) (fun h => ?_)) <;> (try simp only [bs0, beq_iff_eq] at h) <;> try (exfalso; first | omega | exact h rfl; done)) | fail)
         all_goals refine again (m' := d.length) (Nat.lt_succ_self _) (w_canon 60 [] [5, 7, 8, 11, 12, 13, 14, 15] hp rfl rfl rfl rfl) ⟨c ++ [y], d, false, by rw [e2]; simp, rfl, by rw [List.all_append, ← Bool.and_assoc, ← hv]; simp [enB, y2], by rw [hw2] <;> first | rfl | (rw [dT (by omega)] <;> rfl) | (rw [dF (by omega)] <;> rfl), rfl⟩
       ·repeat' (first | refine goR rfl ?_ | refine goS rfl ?_ | refine tret1 rfl ?_ | refine tretN rfl ?_ | refine gY rfl rfl ?_ | refine gN rfl rfl ?_ | refine qT rfl rfl ?_ | refine qF rfl rfl ?_ | refine qT rfl (dT (by rw [lM]; omega)) ?_ | refine lT (tl_ixm rfl rfl rfl hx) ?_ | refine lT (tl_ixm rfl rfl rfl hy) ?_ | ((first | refine gS rfl (fun h => ?_) (fun h => ?_) | refine ts_cond rfl (fun h => ?_) (fun h => ?_)) <;> (try simp only [bs0, beq_iff_eq] at h) <;> try (exfalso; first | omega | exact h rfl; done)) | fail)
        all_goals refine again (m' := d.length) (Nat.lt_succ_self _) (w_canon 60 [] [5, 7, 8, 11, 12, 13, 14, 15] hp rfl rfl rfl rfl) ⟨c ++ [y], d, false, by rw [e2]; simp, rfl, by rw [List.all_append, ← Bool.and_assoc, ← hv]; simp [enB, y1], by rw [hw2] <;> first | rfl | (rw [dT (by omega)] <;> rfl) | (rw [dF (by omega)] <;> rfl), rfl⟩
    | nil =>
     rw [List.length_nil] at hla
     rw [List.append_nil] at e
     rw [← e] at hw
     cases w with
     | true =>
      obtain ⟨k1, k2, k3, k4⟩ := goodT hw0 hw
      have c15 := t1 k1 k2 k3 (fun l hl => Nat.le_trans (hs4 l hl) (by decide)) (k1 ▸ k4)
      repeat' (first | refine goR rfl ?_ | refine goS rfl ?_ | refine tret1 rfl ?_ | refine tretN rfl ?_ | refine gY rfl rfl ?_ | refine gN rfl rfl ?_ | refine qT rfl rfl ?_ | refine qF rfl rfl ?_ | refine qF rfl (dF (by rw [lM]; omega)) ?_ | refine tr_mcallX hP hG (c12) rfl rfl rfl rfl rfl rfl rfl rfl rfl rfl rfl rfl ?_ | refine tr_mcallX hP hG (c13) rfl rfl rfl rfl rfl rfl rfl rfl rfl rfl rfl rfl ?_ | refine tr_callV hP hG (c14 _) rfl (by (repeat' first | exact FzL.nil | refine FzL.cons ?_ ?_ | exact Fz.fr rfl | exact Fz.nil _ | exact Fz.s _ _ _ _ _ _ rfl (lM ..).symm | exact Fz.s _ _ _ _ _ _ rfl rfl | refine Fz.pL rfl ?_ | refine Fz.aggL ?_); first | done | fail) rfl ?_ | fail)
      generalize hRs : atK p.threads.length s.bufs = Rs at c15
      have hRl : Rs.length ≤ 3 := by rw [← hRs, atK_len k3]; exact h3
      rcases rows3 hRl with rfl | ⟨_, rfl⟩ | ⟨_, _, rfl⟩ | ⟨_, _, _, rfl⟩
      all_goals
       repeat' (first | refine goR rfl ?_ | refine goS rfl ?_ | refine tret1 rfl ?_ | refine tretN rfl ?_ | refine gY rfl rfl ?_ | refine gN rfl rfl ?_ | refine qT rfl rfl ?_ | refine qF rfl rfl ?_ | refine tr_mcallX hP hG (c15) rfl rfl rfl rfl rfl rfl rfl rfl rfl rfl rfl rfl ?_ | refine lT (tl_eqb (by rw [hP]; exact ut_bool) rfl rfl) ?_ | refine cA rfl (by rw [hP, hG]; exact c0) rfl ?_ | fail)
       exact .fr rfl
     | false =>
      have c15 := t2 (fun l hl => Nat.le_trans (hs4 l hl) (by decide)) (goodF hw0 hw)
      repeat' (first | refine goR rfl ?_ | refine goS rfl ?_ | refine tret1 rfl ?_ | refine tretN rfl ?_ | refine gY rfl rfl ?_ | refine gN rfl rfl ?_ | refine qT rfl rfl ?_ | refine qF rfl rfl ?_ | refine qF rfl (dF (by rw [lM]; omega)) ?_ | refine tr_mcallX hP hG (c12) rfl rfl rfl rfl rfl rfl rfl rfl rfl rfl rfl rfl ?_ | refine tr_mcallX hP hG (c13) rfl rfl rfl rfl rfl rfl rfl rfl rfl rfl rfl rfl ?_ | refine tr_callV hP hG (c14 _) rfl (by (repeat' first | exact FzL.nil | refine FzL.cons ?_ ?_ | exact Fz.fr rfl | exact Fz.nil _ | exact Fz.s _ _ _ _ _ _ rfl (lM ..).symm | exact Fz.s _ _ _ _ _ _ rfl rfl | refine Fz.pL rfl ?_ | refine Fz.aggL ?_); first | done | fail) rfl ?_ | refine cA rfl (by rw [hP, hG]; exact c15) rfl ?_ | refine lT (tl_eqb (by rw [hP]; exact ut_bool) rfl rfl) ?_ | refine cA rfl (by rw [hP, hG]; exact c0) rfl ?_ | fail)
      exact .fr rfl
end
end Go.Proofs.YtphcaohldmdglaaGreatDoor
