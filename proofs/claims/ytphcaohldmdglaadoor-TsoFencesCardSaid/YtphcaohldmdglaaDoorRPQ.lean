/-
  Walks of functions of the program, and what the laws need of them.
-/
import Derived.Test.YtphcaohldmdglaaDoorRPO
set_option linter.all false
set_option linter.unusedSimpArgs false
set_option linter.unusedVariables false
set_option linter.unnecessarySimpa false
namespace Go.Proofs.YtphcaohldmdglaaDoor
set_option maxRecDepth 20000
open Go Go.Proofs.YtphcaohldmdglaaDoor.V Go.Proofs
def fenI (kd : Nat) : Ins := match kd with
 | 0 => mkI 12 false 0 zOpd zOpd (bs [])
 | 1 => mkI 8 false 0 ⟨3, 0, 1, 0⟩ ⟨1, 0, 0, 0⟩ (bs [])
 | 2 => mkI 9 true 0 ⟨3, 0, 1, 0⟩ ⟨1, 0, 0, 0⟩ (bs [])
 | _ => mkI 2 true 0 ⟨3, 0, 1, 0⟩ ⟨2, 0, 0, 1⟩ (bs [])
def movs (n : Nat) : List Ins := (List.range n).map fun (i : Nat) => movI ((i : Nat) : Int)
def pFen (n kd : Nat) : Prg := ⟨[⟨bs [120], 1, []⟩, ⟨bs [121], 1, []⟩], [movs n ++ [fenI kd, hltI], movs n ++ [hltI]]⟩
def fenL (n k : Nat) : List (Int × Bool) := (List.replicate n [((0 : Int), false), ((1 : Int), false)]).flatten ++ List.replicate k ((0 : Int), true)
def fenQ (n k kd : Nat) : MS := runT (pFen n kd) (beginM (pFen n kd)) (fenL n k)
theorem all3 {P : Nat → Nat → Nat → Bool} (h : ((List.range 5).all fun n => (List.range 5).all fun k => (List.range 4).all fun kd => P n k kd) = true) {n k kd : Nat} (hn : n < 5) (hk : k < 5) (hd : kd < 4) : P n k kd = true := by
 have h1 := List.all_eq_true.1 h n (List.mem_range.2 hn)
 have h2 := List.all_eq_true.1 h1 k (List.mem_range.2 hk)
 exact List.all_eq_true.1 h2 kd (List.mem_range.2 hd)
theorem fen_done {n k kd : Nat} (hn : n < 5) (hk : k < 5) (hd : kd < 4) : (tsoW (pFen n kd) (fenQ n k kd).1 0 false).2 = decide (n ≤ k) := by
 have := all3 (P := fun n k kd => (tsoW (pFen n kd) (fenQ n k kd).1 0 false).2 == decide (n ≤ k)) (by kernel_rfl) hn hk hd
 simpa using this
theorem fen_ok {n kd : Nat} (hn : n < 5) (hd : kd < 4) : checkC (pFen n kd) = 0 := by
 have := all3 (P := fun n _ kd => decide (checkC (pFen n kd) = 0)) (by kernel_rfl) hn (k := 0) (by decide) hd
 simpa using this
theorem fen_mem {n kd : Nat} {l : List Ins} (hl : l ∈ (pFen n kd).threads) : ∀ i ∈ l, i = fenI kd ∨ i = hltI ∨ ∃ j < n, i = movI ((j : Nat) : Int) := by
 intro i hi
 have mv : ∀ i ∈ movs n, ∃ j < n, i = movI ((j : Nat) : Int) := fun i hi => by
  obtain ⟨j, hj, rfl⟩ := List.mem_map.1 hi
  exact ⟨j, List.mem_range.1 hj, rfl⟩
 simp only [pFen, List.mem_cons, List.not_mem_nil, or_false] at hl
 rcases hl with rfl | rfl
 ·rcases List.mem_append.1 hi with hi | hi
  ·exact .inr (.inr (mv i hi))
  ·simp only [List.mem_cons, List.not_mem_nil, or_false] at hi
   rcases hi with rfl | rfl
   ·exact .inl rfl
   ·exact .inr (.inl rfl)
 ·rcases List.mem_append.1 hi with hi | hi
  ·exact .inr (.inr (mv i hi))
  ·rw [List.mem_singleton.1 hi]; exact .inr (.inl rfl)
theorem fenI_plain (kd : Nat) : (fenI kd).to = bs [] ∧ (fenI kd).labels = [] ∧ inR (fenI kd).b.n := by
 unfold fenI
 split <;> exact ⟨rfl, rfl, by unfold inR; decide⟩
theorem fen_okP {n kd : Nat} (hn : n < 5) : okP (pFen n kd) := by
 have hp : ∀ l ∈ (pFen n kd).threads, ∀ i ∈ l, i.to = bs [] ∧ i.labels = [] := fun l hl i hi => by
  rcases fen_mem hl i hi with rfl | rfl | ⟨j, _, rfl⟩
  ·exact ⟨(fenI_plain kd).1, (fenI_plain kd).2.1⟩
  ·exact ⟨rfl, rfl⟩
  ·exact ⟨rfl, rfl⟩
 refine okP_small (by show 2 ≤ 100; decide) ?_ (by show 2 ≤ 100; decide) ?_
 ·intro s hs
  simp only [pFen, List.mem_cons, List.not_mem_nil, or_false] at hs
  rcases hs with rfl | rfl <;> decide
 ·intro t ht
  refine ⟨?_, ?_, fun i hi => ?_⟩
  ·simp only [pFen, List.mem_cons, List.not_mem_nil, or_false] at ht
   rcases ht with rfl | rfl <;> simp [movs] <;> omega
  ·have : allLabs t = [] := by
    unfold allLabs
    rw [List.flatMap_eq_nil_iff]
    intro i hi'
    exact (hp t ht i hi').2
   rw [this]; decide
  ·obtain ⟨e1, e2⟩ := hp t ht i hi
   rw [e1, e2]
   exact ⟨by decide, by decide, fun l hl => by cases hl⟩
theorem fen_nums {n kd : Nat} (hn : n < 5) : numsOk (pFen n kd) := by
 intro l hl i hi
 rcases fen_mem hl i hi with rfl | rfl | ⟨j, hj, rfl⟩
 ·exact (fenI_plain kd).2.2
 ·unfold inR; decide
 ·show inR (j : Int); unfold inR; omega
theorem stepB_no (p : Prg) (s : State) (t : Nat) (x : Thr) : stepB p s t x = (s, false) ∨ (stepB p s t x).2 = true := by
 unfold stepB stepS
 split
 ·exact .inl rfl
 split
 ·exact .inr rfl
 split
 ·exact .inr rfl
 split
 ·exact .inl rfl
 split
 ·exact .inr rfl
 ·exact .inr rfl
theorem tsoW_no {p : Prg} {s : State} {t : Int} {f : Bool} (h : (tsoW p s t f).2 = false) : (tsoW p s t f).1 = s := by
 by_cases ht : 0 ≤ t ∧ t < (s.thr.length : Int)
 ·obtain ⟨k, rfl⟩ : ∃ k : Nat, t = k := ⟨t.toNat, by omega⟩
  have hk : k < s.thr.length := by omega
  cases f with
  | true =>
   rw [tsoW_f hk] at h ⊢
   unfold flushW at h ⊢
   split at h
   ·rfl
   ·cases h
  | false =>
   rw [tsoW_s (List.getElem?_eq_getElem hk)] at h ⊢
   rcases stepB_no p s k s.thr[k] with e | e
   ·rw [e]
   ·rw [e] at h; cases h
 ·rw [tsoW_out ht]
def fenP (n k kd i j : Nat) : MS := runT (pFen n kd) (beginM (pFen n kd)) (fenL i j)
end Go.Proofs.YtphcaohldmdglaaDoor
namespace Go.Proofs.YtphcaohldmdglaaDoor
set_option maxRecDepth 20000
open Go Go.Proofs.YtphcaohldmdglaaDoor.V Go.Proofs
def rawFen (kd : Nat) : List TV := match kd with
 | 0 => [tI 12, tB false, tI 0, tI 0, tI 0, tI 0, tI 0, tI 0, tI 0, tI 0, tI 0, .v (.string (bs [])), .v (.slice none 0 0)]
 | 1 => [tI 8, tB false, tI 0, tI 3, tI 0, tI 1, tI 0, tI 1, tI 0, tI 0, tI 0, .v (.string (bs [])), .v (.slice none 0 0)]
 | 2 => [tI 9, tB true, tI 0, tI 3, tI 0, tI 1, tI 0, tI 1, tI 0, tI 0, tI 0, .v (.string (bs [])), .v (.slice none 0 0)]
 | _ => [tI 2, tB true, tI 0, tI 3, tI 0, tI 1, tI 0, tI 2, tI 0, tI 0, tI 1, .v (.string (bs [])), .v (.slice none 0 0)]
def rawMovs (i : Nat) : List (List TV) := (List.range i).map fun (j : Nat) => rawMov ((j : Nat) : Int)
theorem rawMovs_succ (i : Nat) : rawMovs (i + 1) = rawMovs i ++ [rawMov ((i : Nat) : Int)] := by unfold rawMovs; rw [List.range_succ, List.map_append]; rfl
theorem rawMovs_len (i : Nat) : (rawMovs i).length = i := by unfold rawMovs; rw [List.length_map, List.length_range]
theorem nz_movs2 (n : Nat) : NzL (rawMovs n).flatten ((movs n).map cIns).flatten := by
 have e : rawMovs n = ((List.range n).map fun (j : Nat) => ((j : Nat) : Int)).map rawMov := by unfold rawMovs; rw [List.map_map]; rfl
 have e2 : movs n = ((List.range n).map fun (j : Nat) => ((j : Nat) : Int)).map movI := by unfold movs; rw [List.map_map]; rfl
 rw [e, e2]
 exact nz_movs _
theorem nz_fen {kd : Nat} (h : kd < 4) : NzL (rawFen kd) (cIns (fenI kd)) := by
 have : kd = 0 ∨ kd = 1 ∨ kd = 2 ∨ kd = 3 := by omega
 rcases this with rfl | rfl | rfl | rfl <;> exact nz13
theorem fenL_round (i : Nat) : fenL (i + 1) 0 = fenL i 0 ++ [((0 : Int), false), ((1 : Int), false)] := by
 unfold fenL
 rw [List.replicate_succ', List.flatten_append]
 simp
theorem fenL_flush (n j : Nat) : fenL n (j + 1) = fenL n j ++ [((0 : Int), true)] := by
 unfold fenL
 rw [List.replicate_succ', List.append_assoc]
section
attribute [local irreducible] TwS TwR thenT inBlockT retT nextW localW loadedW swapW Rg.push Rg.pop tsoW doR
set_option maxHeartbeats 20000000 in
theorem tsoFences (n0 k0 d0 : Int) : Pure prog Tabs n_law_TsoFences [tI n0, tI k0, tI d0] (tB true) := by
 have c3 := alive_spec
 obtain ⟨n, hn⟩ : ∃ n : Nat, n0 % ((5 : Nat) : Int) = n := ⟨(n0 % ((5 : Nat) : Int)).toNat, by have := Int.emod_nonneg n0 (show ((5 : Nat) : Int) ≠ 0 by decide); omega⟩
 obtain ⟨k, hk⟩ : ∃ k : Nat, k0 % ((5 : Nat) : Int) = k := ⟨(k0 % ((5 : Nat) : Int)).toNat, by have := Int.emod_nonneg k0 (show ((5 : Nat) : Int) ≠ 0 by decide); omega⟩
 obtain ⟨kd, hd⟩ : ∃ kd : Nat, d0 % ((4 : Nat) : Int) = kd := ⟨(d0 % ((4 : Nat) : Int)).toNat, by have := Int.emod_nonneg d0 (show ((4 : Nat) : Int) ≠ 0 by decide); omega⟩
 have hn5 : n < 5 := by have := Int.emod_lt_of_pos n0 (show (0 : Int) < ((5 : Nat) : Int) by decide); omega
 have hk5 : k < 5 := by have := Int.emod_lt_of_pos k0 (show (0 : Int) < ((5 : Nat) : Int) by decide); omega
 have hd4 : kd < 4 := by have := Int.emod_lt_of_pos d0 (show (0 : Int) < ((4 : Nat) : Int) by decide); omega
 have p1 : ∀ G, Pure prog G n_book_Pick [tI n0, tI 5] (tI (n : Nat)) := fun G => by have := pick_spec (G := G) n0 4 (by decide); rwa [hn] at this
 have p2 : ∀ G, Pure prog G n_book_Pick [tI k0, tI 5] (tI (k : Nat)) := fun G => by have := pick_spec (G := G) k0 4 (by decide); rwa [hk] at this
 have p3 : ∀ G, Pure prog G n_book_Pick [tI d0, tI 4] (tI (kd : Nat)) := fun G => by have := pick_spec (G := G) d0 3 (by decide); rwa [hd] at this
 have ho := fen_okP (kd := kd) hn5
 have hc := fen_ok hn5 hd4
 have hnn := fen_nums (kd := kd) hn5
 have hq0 : mQ (pFen n kd) 0 (beginM (pFen n kd)) := beginM_ok (start_q (by
  intro v h
  have : v = 0 := by simpa using (show v ∈ [(0 : Int), 0] from h)
  rw [this]; unfold inR; decide))
 have h3 : (pFen n kd).threads.length ≤ 3 := by show 2 ≤ 3; decide
 have c2 := tnew_own (pFen n kd) ho hc (start_okS hc) rfl h3
 have hw : ∀ i : Nat, i ≤ 10 → IntKind.i64.wrap ((i : Int) + 1) = ((i + 1 : Nat) : Int) := fun i hi => by rw [w64 (by omega)]; rfl
 have hcl : ∀ (l : List Ins) (y : List TV), y ∈ l.map cIns → y.length = 13 := fun l y hy => by obtain ⟨z, _, rfl⟩ := List.mem_map.1 hy; rfl
 have hfl := rawMovs_len
 refine Pure.of mixedOk (fn := f_law_TsoFences) (by kernel_rfl) (by kernel_rfl) ok_law_TsoFences rfl fun C hP hG hp => goF ?_; simp only [fs_law_TsoFences, targEnv, Nat.zero_add, Nat.reduceAdd]
 repeat' (first | refine goR rfl ?_ | refine goS rfl ?_ | refine tret1 rfl ?_ | refine tretN rfl ?_ | refine tr_guard_y rfl rfl ?_ | refine tr_guard_n rfl rfl ?_ | refine ts_cond_t rfl rfl ?_ | refine ts_cond_f rfl rfl ?_ | refine tr_callA rfl (by rw [hP]; exact p1 _) rfl ?_ | refine tr_callA rfl (by rw [hP]; exact p2 _) rfl ?_ | fail)
 refine joinR 0 (fun env σ => env = [(0, tI n), (1, tI k), (7, .p 0 0), (9, .p 1 0)] ∧ σ = ⟨[(0, .cells [tI 3, tI 0, tI 0, tI 0] ty_api_Opd), (1, .cells (rawFen kd) ty_api_Ins)], 2⟩) rfl ?_ ?_
 ·have hd' : kd = 0 ∨ kd = 1 ∨ kd = 2 ∨ kd = 3 := by omega
  rcases hd' with rfl | rfl | rfl | rfl
  all_goals
   repeat' (first | refine goR rfl ?_ | refine goS rfl ?_ | refine tret1 rfl ?_ | refine tretN rfl ?_ | refine tr_guard_y rfl rfl ?_ | refine tr_guard_n rfl rfl ?_ | refine ts_cond_t rfl rfl ?_ | refine ts_cond_f rfl rfl ?_ | refine tr_callA rfl (by rw [hP]; exact p3 _) rfl ?_ | refine tr_light (tl_ixo rfl rfl rfl (Nat.le_of_ble_eq_true rfl)) ?_ | refine tr_light (tl_ldE rfl rfl rfl rfl) ?_ | fail)
   exact joined (w_canon 2 [] [0, 1, 7, 9] hp rfl rfl rfl rfl) ⟨rfl, rfl⟩
 rintro env σ ⟨rfl, rfl⟩
 have hrf : ∃ a0 a1 a2 a3 a4 a5 a6 a7 a8 a9 a10 a11 a12, rawFen kd = [.v a0, .v a1, .v a2, .v a3, .v a4, .v a5, .v a6, .v a7, .v a8, .v a9, .v a10, .v a11, .v a12] := by
  have hd' : kd = 0 ∨ kd = 1 ∨ kd = 2 ∨ kd = 3 := by omega
  rcases hd' with rfl | rfl | rfl | rfl <;> exact ⟨_, _, _, _, _, _, _, _, _, _, _, _, _, rfl⟩
 have hnf := nz_fen hd4
 obtain ⟨a0, a1, a2, a3, a4, a5, a6, a7, a8, a9, a10, a11, a12, hrf⟩ := hrf
 rw [hrf] at hnf ⊢
 repeat' (first | refine goR rfl ?_ | refine goS rfl ?_ | refine tret1 rfl ?_ | refine tretN rfl ?_ | refine tr_guard_y rfl rfl ?_ | refine tr_guard_n rfl rfl ?_ | refine ts_cond_t rfl rfl ?_ | refine ts_cond_f rfl rfl ?_ | fail)
 refine loopS (fun m env σ => ∃ i, i ≤ n ∧ m = n - i ∧ env = [(7, .p 0 0), (9, .p 1 0), (10, .p 2 0), (11, .p 4 0), (0, tI n), (1, tI k), (12, tI i)] ∧ σ = ⟨[(0, .cells [tI 3, tI 0, tI 0, tI 0] ty_api_Opd), (1, .cells [.v a0, .v a1, .v a2, .v a3, .v a4, .v a5, .v a6, .v a7, .v a8, .v a9, .v a10, .v a11, .v a12] ty_api_Ins), (2, .cells [.s 3 13 0 i true] ty_api_Thread), (3, .rows 13 (rawMovs i) ty_api_Ins), (4, .cells [.s 5 13 0 i true] ty_api_Thread), (5, .rows 13 (rawMovs i) ty_api_Ins)], 6⟩) n
  ((w_virtC (j := 2) (i := 0) 13 ty_api_Ins rfl rfl).trans ((w_virtC (j := 3) (i := 0) 13 ty_api_Ins rfl rfl).trans (w_canon 6 [] [7, 9, 10, 11, 0, 1, 12] hp rfl rfl rfl rfl))) ⟨0, by omega, by omega, rfl, rfl⟩ ?_
 rintro m1 env σ ⟨i, hi, rfl, rfl, rfl⟩
 have hix : ∀ c : List TV, (rawMovs i ++ [c])[i]? = some c := fun c => by
  rw [List.getElem?_append_right (by rw [hfl]; omega), hfl, Nat.sub_self]; rfl
 by_cases hlt : i < n
 ·repeat' (first | refine goR rfl ?_ | refine goS rfl ?_ | refine tret1 rfl ?_ | refine tretN rfl ?_ | refine tr_guard_y rfl rfl ?_ | refine tr_guard_n rfl rfl ?_ | refine ts_cond_t rfl rfl ?_ | refine ts_cond_f rfl rfl ?_ | refine ts_cond_t rfl (decide_eq_true (by omega)) ?_ | refine tr_append rfl rfl (hfl i).symm (.inr (.inr ⟨_, _, _, _, rfl, rfl, rfl⟩)) (by simp only [List.length_cons, List.length_nil]; omega) rfl ?_ | refine tr_light (tl_ixo (m := i) rfl rfl rfl (by simp only [List.length_cons, List.length_nil]; omega)) ?_ | refine tr_light (tl_ldE rfl rfl (hix _) rfl) ?_ | fail)
  exact again (m' := n - (i + 1)) (by omega) (w_canon 6 [] [7, 9, 10, 11, 0, 1, 12] hp rfl rfl rfl rfl) ⟨i + 1, hlt, rfl, by rw [hw i (by omega)], by rw [rawMovs_succ]; rfl⟩
 have hie : i = n := by omega
 rw [hie]
 clear hix hlt hi hie
 repeat' (first | refine goR rfl ?_ | refine goS rfl ?_ | refine tret1 rfl ?_ | refine tretN rfl ?_ | refine tr_guard_y rfl rfl ?_ | refine tr_guard_n rfl rfl ?_ | refine ts_cond_t rfl rfl ?_ | refine ts_cond_f rfl rfl ?_ | refine ts_cond_f rfl (decide_eq_false (by omega)) ?_ | refine tr_append rfl rfl (hfl n).symm (.inr (.inr ⟨_, _, _, _, rfl, rfl, rfl⟩)) (by simp only [List.length_cons, List.length_nil]; omega) rfl ?_ | fail)
 have hl1 : (rawMovs n).length + 2 = ((movs n ++ [fenI kd, hltI]).map cIns).length := by rw [hfl]; simp [movs]
 have hl2 : (rawMovs n).length + 1 = ((movs n ++ [hltI]).map cIns).length := by rw [hfl]; simp [movs]
 refine tr_weak (w_rowsA (k := 7) (ys := (movs n ++ [fenI kd, hltI]).map cIns) rfl (by rw [← hl1, List.length_append]; rfl) (by simp) (hcl _) (by
  rw [List.map_append, List.flatten_append, List.flatten_append]
  exact (nz_movs2 n).append (NzL.append hnf (NzL.append nz13 .nil)))) ?_
 refine tr_weak (w_rowsA (k := 9) (ys := (movs n ++ [hltI]).map cIns) rfl (by rw [← hl2, List.length_append]; rfl) (by simp) (hcl _) (by
  rw [List.map_append, List.flatten_append, List.flatten_append]
  exact (nz_movs2 n).append (NzL.append nz13 .nil))) ?_
 refine tr_weak (w_rowsA (k := 10) (ys := (pFen n kd).syms.map cSym) rfl rfl (by intro h; cases h) (fun y hy => by obtain ⟨z, _, rfl⟩ := List.mem_map.1 hy; rfl) ?_) ?_
 ·repeat' (first | exact .nil | refine .cons ?_ ?_ | exact .nil 1 | exact .refl _)
 refine tr_frzA 79 0 rfl rfl rfl (by rw [← hl1, hfl]; rfl) ?_
 refine tr_frzA 80 0 rfl rfl rfl (by rw [← hl2, hfl]; rfl) ?_
 repeat' (first | refine goR rfl ?_ | refine goS rfl ?_ | refine tret1 rfl ?_ | refine tretN rfl ?_ | refine tr_guard_y rfl rfl ?_ | refine tr_guard_n rfl rfl ?_ | refine ts_cond_t rfl rfl ?_ | refine ts_cond_f rfl rfl ?_ | refine tr_frzA 82 0 rfl rfl rfl rfl ?_ | refine tr_frzA 82 1 rfl rfl rfl rfl ?_ | refine tr_mcallX hP hG (c2) rfl rfl rfl rfl rfl rfl rfl rfl rfl rfl rfl rfl ?_ | fail)
 refine loopS (fun m env σ => ∃ i, i ≤ n ∧ m = n - i ∧ env = [(13, .p 0 0), (0, tI n), (1, tI k), (14, tI i)] ∧ σ = ⟨tsM (pFen n kd) (fenP n k kd i 0).1 (fenP n k kd i 0).2 0, 60⟩) n
  (w_canon 60 [] [13, 0, 1, 14] hp rfl rfl rfl rfl) ⟨0, by omega, by omega, rfl, rfl⟩ ?_
 rintro m1 env σ ⟨i, hi, rfl, rfl, rfl⟩
 have hqi : mQ (pFen n kd) (0 + (fenL i 0).length) (fenP n k kd i 0) := hq0.run hc hnn (fenL i 0)
 have hli : ∀ i j, i ≤ 4 → j ≤ 5 → (fenL i j).length ≤ 20 := fun i j h1 h2 => by
  unfold fenL
  rw [List.length_append, List.length_flatten, List.map_replicate, List.sum_replicate_nat, List.length_replicate]
  simp; omega
 by_cases hlt : i < n
 ·have hnx : fenP n k kd (i + 1) 0 = mW (pFen n kd) (mW (pFen n kd) (fenP n k kd i 0) ((0 : Int), false)) ((1 : Int), false) := by
   unfold fenP; rw [fenL_round, runT_app]; rfl
  have hl := hli i 0 (by omega) (by omega)
  have hqa := hqi.step hc hnn ((0 : Int), false)
  have hqb := hqa.step hc hnn ((1 : Int), false)
  have c5 := tdo_own (pFen n kd) ho hc _ hqi (by omega) h3 0 false
  have c6 := tdo_own (pFen n kd) ho hc _ hqa (by omega) h3 1 false
  obtain ⟨s1, R1, hq1, hl1, hR1⟩ := hqi.split hq0 h3
  obtain ⟨s2, R2, hq2, hl2, hR2⟩ := hqa.split hq0 h3
  obtain ⟨s3, R3, hq3, hl3, hR3⟩ := hqb.split hq0 h3
  rw [hq3] at c6 hnx
  rw [hq2] at c5 c6
  rw [hq1] at c5
  simp only at c5 c6
  generalize (tsoW (pFen n kd) s1 0 false).2 = b1 at c5
  generalize (tsoW (pFen n kd) s2 1 false).2 = b2 at c6
  rw [hq1]
  obtain ⟨_, _, rfl⟩ := row2 hl1
  obtain ⟨_, _, rfl⟩ := row2 hl2
  obtain ⟨_, _, rfl⟩ := row2 hl3
  repeat' (first | refine goR rfl ?_ | refine goS rfl ?_ | refine tret1 rfl ?_ | refine tretN rfl ?_ | refine tr_guard_y rfl rfl ?_ | refine tr_guard_n rfl rfl ?_ | refine ts_cond_t rfl rfl ?_ | refine ts_cond_f rfl rfl ?_ | refine ts_cond_t rfl (decide_eq_true (by omega)) ?_ | refine tr_mcallX hP hG (c5) rfl rfl rfl rfl rfl rfl rfl rfl rfl rfl rfl rfl ?_ | refine tr_mcallX hP hG (c6) rfl rfl rfl rfl rfl rfl rfl rfl rfl rfl rfl rfl ?_ | fail)
  exact again (m' := n - (i + 1)) (by omega) (w_canon 60 [] [13, 0, 1, 14] hp rfl rfl rfl rfl) ⟨i + 1, hlt, rfl, by rw [hw i (by omega)], by rw [hnx]; rfl⟩
 have hie : i = n := by omega
 subst hie
 repeat' (first | refine goR rfl ?_ | refine goS rfl ?_ | refine tret1 rfl ?_ | refine tretN rfl ?_ | refine tr_guard_y rfl rfl ?_ | refine tr_guard_n rfl rfl ?_ | refine ts_cond_t rfl rfl ?_ | refine ts_cond_f rfl rfl ?_ | refine ts_cond_f rfl (decide_eq_false (by omega)) ?_ | fail)
 refine loopS (fun m env σ => ∃ j, j ≤ k ∧ m = k - j ∧ env = [(13, .p 0 0), (0, tI i), (1, tI k), (15, tI j)] ∧ σ = ⟨tsM (pFen i kd) (fenP i k kd i j).1 (fenP i k kd i j).2 0, 60⟩) k
  (w_sub [13, 0, 1, 15] rfl) ⟨0, by omega, by omega, rfl, rfl⟩ ?_
 rintro m2 env σ ⟨j, hj, rfl, rfl, rfl⟩
 have hqj : mQ (pFen i kd) (0 + (fenL i j).length) (fenP i k kd i j) := hq0.run hc hnn (fenL i j)
 have hl := hli i j (by omega) (by omega)
 by_cases hlt : j < k
 ·have hnx : fenP i k kd i (j + 1) = mW (pFen i kd) (fenP i k kd i j) ((0 : Int), true) := by
   unfold fenP; rw [fenL_flush, runT_snoc]
  have hqa := hqj.step hc hnn ((0 : Int), true)
  have c5 := tdo_own (pFen i kd) ho hc _ hqj (by omega) h3 0 true
  obtain ⟨s1, R1, hq1, hl1, hR1⟩ := hqj.split hq0 h3
  obtain ⟨s2, R2, hq2, hl2, hR2⟩ := hqa.split hq0 h3
  rw [hq2] at c5 hnx
  rw [hq1] at c5
  simp only at c5
  generalize (tsoW (pFen i kd) s1 0 true).2 = b1 at c5
  rw [hq1]
  obtain ⟨_, _, rfl⟩ := row2 hl1
  obtain ⟨_, _, rfl⟩ := row2 hl2
  repeat' (first | refine goR rfl ?_ | refine goS rfl ?_ | refine tret1 rfl ?_ | refine tretN rfl ?_ | refine tr_guard_y rfl rfl ?_ | refine tr_guard_n rfl rfl ?_ | refine ts_cond_t rfl rfl ?_ | refine ts_cond_f rfl rfl ?_ | refine ts_cond_t rfl (decide_eq_true (by omega)) ?_ | refine tr_mcallX hP hG (c5) rfl rfl rfl rfl rfl rfl rfl rfl rfl rfl rfl rfl ?_ | fail)
  exact again (m' := k - (j + 1)) (by omega) (w_canon 60 [] [13, 0, 1, 15] hp rfl rfl rfl rfl) ⟨j + 1, hlt, rfl, by rw [hw j (by omega)], by rw [hnx]; rfl⟩
 have hje : j = k := by omega
 subst hje
 have hdone : (tsoW (pFen i kd) (fenP i j kd i j).1 0 false).2 = decide ((j : Int) ≥ (i : Int)) := by
  have := fen_done hn5 hk5 hd4
  rw [show fenP i j kd i j = fenQ i j kd from rfl, this]
  exact decide_eq_decide.2 ⟨fun h => by omega, fun h => by omega⟩
 have hqa := hqj.step hc hnn ((0 : Int), false)
 have c5 := tdo_own (pFen i kd) ho hc _ hqj (by omega) h3 0 false
 rw [hdone] at c5
 have c6 := tstate_own (G := Tabs) (pFen i kd) _ hqj (by omega) (by have := hqj.memLen hc; omega) h3
 have c7 := tstate_own (G := Tabs) (pFen i kd) _ hqa (by omega) (by have := hqa.memLen hc; omega) h3
 have hok := hqj.okS hc (by omega) (by show 2 ≤ 64; decide)
 have c8 := sameSt_spec (G := Tabs) _ hok
 have hno : decide ((j : Int) ≥ (i : Int)) = false → (mW (pFen i kd) (fenP i j kd i j) ((0 : Int), false)).1 = (fenP i j kd i j).1 := fun h => tsoW_no (by rw [hdone]; exact h)
 obtain ⟨s1, R1, hq1, hl1, hR1⟩ := hqj.split hq0 h3
 obtain ⟨s2, R2, hq2, hl2, hR2⟩ := hqa.split hq0 h3
 rw [hq2] at c5 c7 hno
 rw [hq1] at c5 c6 c8 hno
 rw [hq1]
 simp only at c5 c6 c7 c8 hno
 obtain ⟨_, _, rfl⟩ := row2 hl1
 obtain ⟨_, _, rfl⟩ := row2 hl2
 have hlt : decide ((j : Int) < (j : Int)) = false := decide_eq_false (by omega)
 cases hb : decide ((j : Int) ≥ (i : Int)) with
 | true =>
  rw [hb] at c5
  repeat' (first | refine goR rfl ?_ | refine goS rfl ?_ | refine tret1 rfl ?_ | refine tretN rfl ?_ | refine tr_guard_y rfl rfl ?_ | refine tr_guard_n rfl rfl ?_ | refine ts_cond_t rfl rfl ?_ | refine ts_cond_f rfl rfl ?_ | refine ts_cond_f rfl hlt ?_ | refine tr_mcallX hP hG (c6) rfl rfl rfl rfl rfl rfl rfl rfl rfl rfl rfl rfl ?_ | refine tr_mcallX hP hG (c5) rfl rfl rfl rfl rfl rfl rfl rfl rfl rfl rfl rfl ?_ | (refine tr_light (tl_eqb (by rw [hP]; exact ut_bool) rfl rfl) ?_; rw [hb]) | refine tr_callA rfl (by rw [hP, hG]; exact c3) rfl ?_ | fail)
  exact .fr rfl
 | false =>
  rw [hb] at c5
  have hno := hno hb
  subst hno
  repeat' (first | refine goR rfl ?_ | refine goS rfl ?_ | refine tret1 rfl ?_ | refine tretN rfl ?_ | refine tr_guard_y rfl rfl ?_ | refine tr_guard_n rfl rfl ?_ | refine ts_cond_t rfl rfl ?_ | refine ts_cond_f rfl rfl ?_ | refine ts_cond_f rfl hlt ?_ | refine tr_mcallX hP hG (c6) rfl rfl rfl rfl rfl rfl rfl rfl rfl rfl rfl rfl ?_ | refine tr_mcallX hP hG (c5) rfl rfl rfl rfl rfl rfl rfl rfl rfl rfl rfl rfl ?_ | (refine tr_light (tl_eqb (by rw [hP]; exact ut_bool) rfl rfl) ?_; rw [hb]) | refine tr_mcallX hP hG (c7) rfl rfl rfl rfl rfl rfl rfl rfl rfl rfl rfl rfl ?_ | refine tr_callV hP hG (c8) rfl (by (repeat' first | exact FzL.nil | refine FzL.cons ?_ ?_ | exact Fz.fr rfl | exact Fz.nil _ | exact Fz.s _ _ _ _ _ _ rfl (List.length_map ..).symm | exact Fz.s _ _ _ _ _ _ rfl rfl | refine Fz.pL rfl ?_ | refine Fz.aggL ?_); first | done | fail) rfl ?_ | refine tr_callA rfl (by rw [hP, hG]; exact c3) rfl ?_ | fail)
  exact .fr rfl
end
end Go.Proofs.YtphcaohldmdglaaDoor
