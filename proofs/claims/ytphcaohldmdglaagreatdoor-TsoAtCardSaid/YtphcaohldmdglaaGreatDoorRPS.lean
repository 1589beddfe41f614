/-
  Walks of functions of the program, and what the laws need of them.
-/
import Derived.Test.YtphcaohldmdglaaGreatDoorRPK
import Derived.Test.YtphcaohldmdglaaGreatDoorVI
set_option linter.all false
set_option linter.unusedSimpArgs false
set_option linter.unusedVariables false
set_option linter.unnecessarySimpa false
namespace Go.Proofs.YtphcaohldmdglaaGreatDoor
set_option maxRecDepth 20000
open Go Go.Proofs.YtphcaohldmdglaaGreatDoor.V Go.Proofs
def pushL (l : List Entry) : Rg := l.foldl Rg.push Rg.new
theorem pushL_snoc (a : List Entry) (e : Entry) : pushL (a ++ [e]) = (pushL a).push e := by unfold pushL; rw [List.foldl_append]; rfl
theorem Rg.push_len (r : Rg) (e : Entry) : (r.push e).l.length = if r.n = r.l.length then 2 * r.n + 2 else r.l.length := by
 have hl := r.list_len
 unfold Rg.push
 split
 ·show (List.set _ _ _).length = _
  rw [List.length_set, lA, List.length_replicate]; omega
 ·show (List.set _ _ _).length = _
  rw [List.length_set]
theorem pushL_ok (l : List Entry) : ∀ k, k ≤ l.length → (pushL (l.take k)).ok ∧ (pushL (l.take k)).list = l.take k ∧ (pushL (l.take k)).l.length ≤ 2 * k
 | 0, _ => ⟨Rg.new_ok, rfl, Nat.le_refl _⟩
 | k + 1, h => by
  obtain ⟨h1, h2, h3⟩ := pushL_ok l k (by omega)
  have hn := (pushL (l.take k)).list_len
  rw [h2, List.length_take] at hn
  rw [List.take_add_one, List.getElem?_eq_getElem (by omega), Option.toList_some, pushL_snoc]
  refine ⟨Rg.push_ok h1 _, by rw [Rg.push_list h1, h2], ?_⟩
  rw [Rg.push_len]
  split <;> omega
theorem pushA_ok (a : List Entry) : (pushL a).ok ∧ (pushL a).list = a ∧ (pushL a).l.length ≤ 2 * a.length := by
 have := pushL_ok a a.length (Nat.le_refl _)
 rwa [List.take_length] at this
def atK (n : Nat) (bs : List (List Entry)) : List Rg := bs.map pushL ++ List.replicate (n - bs.length) Rg.new
theorem atK_len {n : Nat} {bs : List (List Entry)} (h : bs.length ≤ n) : (atK n bs).length = n := by
 unfold atK; rw [lA, lM, List.length_replicate]; omega
theorem atK_get {n t : Nat} {bs : List (List Entry)} (h : bs.length ≤ n) (ht : t < bs.length) : (atK n (bs.take t))[t]? = some (pushL []) := by
 have e : (bs.take t).length = t := by rw [List.length_take]; omega
 unfold atK
 rw [List.getElem?_append_right (by rw [lM, e]; exact Nat.le_refl _), lM, e, Nat.sub_self, List.getElem?_replicate, if_pos (by omega)]; rfl
theorem atK_set {n t : Nat} {bs : List (List Entry)} {l : List Entry} (h : bs.length ≤ n) (hl : bs[t]? = some l) : atK n (bs.take (t + 1)) = (atK n (bs.take t)).set t (pushL l) := by
 obtain ⟨ht, rfl⟩ := List.getElem?_eq_some_iff.1 hl
 have e : (bs.take t).length = t := by rw [List.length_take]; omega
 have e2 : (bs.take (t + 1)).length = t + 1 := by rw [List.length_take]; omega
 unfold atK
 rw [e, e2, List.take_add_one, hl, Option.toList_some, List.map_append, List.set_append_right _ _ (by rw [lM, e]; exact Nat.le_refl _), lM, e, Nat.sub_self, show n - t = (n - (t + 1)) + 1 by omega, List.replicate_succ, List.set_cons_zero, List.append_assoc]; rfl
section
attribute [local irreducible] TwS TwR thenT inBlockT retT Rg.push Rg.pop
set_option maxHeartbeats 20000000 in
theorem tat_0 (p : Prg) (s : State) (B : State) (hn : p.threads.length = 0) (c1 : TC prog Tabs n_tso_New [.agg (cPrg p)] ⟨[], 0⟩ [] (fun v σ' => v = .p 0 0 ∧ σ' = ⟨tsM p B (atK 0 []) 0, 20⟩)) (hBt : B.thr.length = 0) (hm : s.mem.length = B.mem.length) (hsz : s.mem.length ≤ 1000000000) (ht : s.thr.length = 0) (hbl : s.bufs.length ≤ 0) (hll : ∀ l ∈ s.bufs, l.length ≤ 40000000) (hen : ∀ l ∈ s.bufs, ∀ e ∈ l, 0 ≤ e.addr ∧ e.addr < s.mem.length) :
  TC prog Tabs n_tso_At [.agg (cPrg p), .agg (cState s)] ⟨[], 0⟩ [] (fun v σ' => v = .p 0 0 ∧ σ' = ⟨tsM p s (atK 0 s.bufs) 0, 20⟩) := by
 have e1 : (s.mem.map fun n => [tI n]).length = s.mem.length := lM ..
 have e2 : (s.thr.map cThr).length = s.thr.length := lM ..
 have e3 : (s.bufs.map cBuf).length = s.bufs.length := lM ..
 have e4 : (B.mem.map fun n => [tI n]).length = B.mem.length := lM ..
 have e5 : (B.thr.map cThr).length = B.thr.length := lM ..
 rw [show atK 0 [] = [] from rfl] at c1
 refine TC.of mixedOk (fn := f_tso_At) (by kernel_rfl) (by kernel_rfl) ok_tso_At rfl fun C hP hG hp => goF ?_; simp only [fs_tso_At, targEnv, Nat.zero_add, Nat.reduceAdd]
 repeat' (first | refine goR rfl ?_ | refine goS rfl ?_ | refine tret1 rfl ?_ | refine tretN rfl ?_ | refine gY rfl rfl ?_ | refine gN rfl rfl ?_ | refine qT rfl rfl ?_ | refine qF rfl rfl ?_ | refine tr_mcallX hP hG (c1) rfl rfl rfl rfl rfl rfl rfl rfl rfl rfl rfl rfl ?_ | ((first | refine gS rfl (fun h => ?_) (fun h => ?_) | refine ts_cond rfl (fun h => ?_) (fun h => ?_)) <;> (try simp only [bs0, beq_iff_eq] at h) <;> try (exfalso; first | omega | exact h rfl; done)) | fail)
 refine loopS (fun m env σ => ∃ t, t ≤ s.bufs.length ∧ m = s.bufs.length - t ∧ atK 0 (s.bufs.take t) = [] ∧ env = [(3, .p 0 0), (5, .p 1 0), (48, .lst 1 (s.bufs.map cBuf)), (49, tI (s.bufs.map cBuf).length), (50, tI t)] ∧ σ = ⟨(0, .cells (cState s) ty_api_State) :: tsM p B [] 1, 30⟩) s.bufs.length (w_canon 30 [] [3, 5, 48, 49, 50] hp rfl rfl rfl rfl) ⟨0, by omega, by omega, rfl, rfl, rfl⟩ ?_
 rintro m env σ ⟨t, htl, rfl, hR, rfl, rfl⟩
 by_cases hlt : t < s.bufs.length
 ·omega
 ·obtain rfl : t = s.bufs.length := by omega
  rw [List.take_length] at hR
  rw [hR]
  repeat' (first | refine goR rfl ?_ | refine goS rfl ?_ | refine tret1 rfl ?_ | refine tretN rfl ?_ | refine gY rfl rfl ?_ | refine gN rfl rfl ?_ | refine qT rfl rfl ?_ | refine qF rfl rfl ?_ | refine qF rfl (dF (by omega)) ?_ | refine tr_copy rfl rfl (by first | exact e4.symm | exact e5.symm) (.inl rfl) (by first | omega | (rw [e1]; omega) | (rw [e2]; omega)) rfl ?_ | fail)
  have d1 : List.drop (s.mem.map fun n => [tI n]).length (B.mem.map fun n => [tI n]) = [] := List.drop_of_length_le (by omega)
  have d2 : List.drop (s.thr.map cThr).length (B.thr.map cThr) = [] := List.drop_of_length_le (by omega)
  have d3 : B.thr.length = s.thr.length := by omega
  rw [d1, d2, List.append_nil, List.append_nil]
  unfold tsM
  rw [← hm, d3]
  exact tretX 20 [] rfl hp rfl rfl rfl rfl ⟨rfl, rfl⟩
set_option maxHeartbeats 20000000 in
theorem tno_0 (p : Prg) (s : State) (B : State) (hn : p.threads.length = 0) (c1 : TC prog Tabs n_tso_New [.agg (cPrg p)] ⟨[], 0⟩ [] (fun v σ' => v = .p 0 0 ∧ σ' = ⟨tsM p B (atK 0 []) 0, 20⟩)) (hBt : B.thr.length = 0) (hm : s.mem.length = B.mem.length) (hsz : s.mem.length ≤ 1000000000) (ht : s.thr.length = 0) (hbl : s.bufs.length ≤ 0) (hll : ∀ l ∈ s.bufs, l.length ≤ 40000000) (hen : ¬ ∀ l ∈ s.bufs, ∀ e ∈ l, 0 ≤ e.addr ∧ e.addr < s.mem.length) :
  Pure prog Tabs n_tso_At [.agg (cPrg p), .agg (cState s)] (.v (.pointer none)) := by
 have e1 : (s.mem.map fun n => [tI n]).length = s.mem.length := lM ..
 have e2 : (s.thr.map cThr).length = s.thr.length := lM ..
 have e3 : (s.bufs.map cBuf).length = s.bufs.length := lM ..
 have e4 : (B.mem.map fun n => [tI n]).length = B.mem.length := lM ..
 have e5 : (B.thr.map cThr).length = B.thr.length := lM ..
 rw [show atK 0 [] = [] from rfl] at c1
 refine Pure.of mixedOk (fn := f_tso_At) (by kernel_rfl) (by kernel_rfl) ok_tso_At rfl fun C hP hG hp => goF ?_; simp only [fs_tso_At, targEnv, Nat.zero_add, Nat.reduceAdd]
 repeat' (first | refine goR rfl ?_ | refine goS rfl ?_ | refine tret1 rfl ?_ | refine tretN rfl ?_ | refine gY rfl rfl ?_ | refine gN rfl rfl ?_ | refine qT rfl rfl ?_ | refine qF rfl rfl ?_ | refine tr_mcallX hP hG (c1) rfl rfl rfl rfl rfl rfl rfl rfl rfl rfl rfl rfl ?_ | ((first | refine gS rfl (fun h => ?_) (fun h => ?_) | refine ts_cond rfl (fun h => ?_) (fun h => ?_)) <;> (try simp only [bs0, beq_iff_eq] at h) <;> try (exfalso; first | omega | exact h rfl; done)) | fail)
 refine loopS (fun m env σ => ∃ t, t ≤ s.bufs.length ∧ m = s.bufs.length - t ∧ (¬ ∀ l ∈ s.bufs.drop t, ∀ e ∈ l, 0 ≤ e.addr ∧ e.addr < s.mem.length) ∧ atK 0 (s.bufs.take t) = [] ∧ env = [(3, .p 0 0), (5, .p 1 0), (48, .lst 1 (s.bufs.map cBuf)), (49, tI (s.bufs.map cBuf).length), (50, tI t)] ∧ σ = ⟨(0, .cells (cState s) ty_api_State) :: tsM p B [] 1, 30⟩) s.bufs.length (w_canon 30 [] [3, 5, 48, 49, 50] hp rfl rfl rfl rfl) ⟨0, by omega, by omega, by rw [List.drop_zero]; exact hen, rfl, rfl, rfl⟩ ?_
 rintro m env σ ⟨t, htl, rfl, hbad, hR, rfl, rfl⟩
 by_cases hlt : t < s.bufs.length
 ·omega
 ·obtain rfl : t = s.bufs.length := by omega
  exact absurd (fun l hl => by rw [List.drop_length] at hl; cases hl) hbad
set_option maxHeartbeats 20000000 in
theorem tat_1 (p : Prg) (s : State) (B : State) (hn : p.threads.length = 1) (c1 : TC prog Tabs n_tso_New [.agg (cPrg p)] ⟨[], 0⟩ [] (fun v σ' => v = .p 0 0 ∧ σ' = ⟨tsM p B (atK 1 []) 0, 20⟩)) (hBt : B.thr.length = 1) (hm : s.mem.length = B.mem.length) (hsz : s.mem.length ≤ 1000000000) (ht : s.thr.length = 1) (hbl : s.bufs.length ≤ 1) (hll : ∀ l ∈ s.bufs, l.length ≤ 40000000) (hen : ∀ l ∈ s.bufs, ∀ e ∈ l, 0 ≤ e.addr ∧ e.addr < s.mem.length) :
  TC prog Tabs n_tso_At [.agg (cPrg p), .agg (cState s)] ⟨[], 0⟩ [] (fun v σ' => v = .p 0 0 ∧ σ' = ⟨tsM p s (atK 1 s.bufs) 0, 20⟩) := by
 have e1 : (s.mem.map fun n => [tI n]).length = s.mem.length := lM ..
 have e2 : (s.thr.map cThr).length = s.thr.length := lM ..
 have e3 : (s.bufs.map cBuf).length = s.bufs.length := lM ..
 have e4 : (B.mem.map fun n => [tI n]).length = B.mem.length := lM ..
 have e5 : (B.thr.map cThr).length = B.thr.length := lM ..
 rw [show atK 1 [] = [Rg.new] from rfl] at c1
 refine TC.of mixedOk (fn := f_tso_At) (by kernel_rfl) (by kernel_rfl) ok_tso_At rfl fun C hP hG hp => goF ?_; simp only [fs_tso_At, targEnv, Nat.zero_add, Nat.reduceAdd]
 repeat' (first | refine goR rfl ?_ | refine goS rfl ?_ | refine tret1 rfl ?_ | refine tretN rfl ?_ | refine gY rfl rfl ?_ | refine gN rfl rfl ?_ | refine qT rfl rfl ?_ | refine qF rfl rfl ?_ | refine tr_mcallX hP hG (c1) rfl rfl rfl rfl rfl rfl rfl rfl rfl rfl rfl rfl ?_ | ((first | refine gS rfl (fun h => ?_) (fun h => ?_) | refine ts_cond rfl (fun h => ?_) (fun h => ?_)) <;> (try simp only [bs0, beq_iff_eq] at h) <;> try (exfalso; first | omega | exact h rfl; done)) | fail)
 refine loopS (fun m env σ => ∃ t, t ≤ s.bufs.length ∧ m = s.bufs.length - t ∧ ∃ r0 : Rg, atK 1 (s.bufs.take t) = [r0] ∧ env = [(3, .p 0 0), (5, .p 1 0), (48, .lst 1 (s.bufs.map cBuf)), (49, tI (s.bufs.map cBuf).length), (50, tI t)] ∧ σ = ⟨(0, .cells (cState s) ty_api_State) :: tsM p B [r0] 1, 30⟩) s.bufs.length (w_canon 30 [] [3, 5, 48, 49, 50] hp rfl rfl rfl rfl) ⟨0, by omega, by omega, Rg.new, rfl, rfl, rfl⟩ ?_
 rintro m env σ ⟨t, htl, rfl, r0, hR, rfl, rfl⟩
 by_cases hlt : t < s.bufs.length
 ·obtain ⟨l, hl⟩ : ∃ l, s.bufs[t]? = some l := ⟨_, List.getElem?_eq_getElem hlt⟩
  have hlm : l ∈ s.bufs := List.mem_of_getElem? hl
  have hg := atK_get hbl hlt
  have hs1 := atK_set hbl hl
  rw [hR] at hg hs1
  have e6 : (l.map cEntry).length = l.length := lM ..
  have hlb := hll l hlm
  have hel := hen l hlm
  have ht8 : t = 0 := by omega
  rcases ht8 with rfl
  ·obtain rfl : r0 = pushL [] := by simpa using hg
   repeat' (first | refine goR rfl ?_ | refine goS rfl ?_ | refine tret1 rfl ?_ | refine tretN rfl ?_ | refine gY rfl rfl ?_ | refine gN rfl rfl ?_ | refine qT rfl rfl ?_ | refine qF rfl rfl ?_ | refine qT rfl (dT (by omega)) ?_ | refine lT (tl_ixm rfl rfl rfl hl) ?_ | fail)
   refine loopS (fun m env σ => ∃ a b, l = a ++ b ∧ m = b.length ∧ env = [(3, .p 0 0), (5, .p 1 0), (6, tI (0 : Nat)), (48, .lst 1 (s.bufs.map cBuf)), (49, tI (s.bufs.map cBuf).length), (50, tI (0 : Nat)), (55, .lst 2 (l.map cEntry)), (56, tI (l.map cEntry).length), (57, tI a.length)] ∧ σ = ⟨(0, .cells (cState s) ty_api_State) :: tsM p B [pushL a] 1, 30⟩) l.length (w_canon 30 [] [3, 5, 6, 48, 49, 50, 55, 56, 57] hp rfl rfl rfl rfl) ⟨[], l, rfl, rfl, rfl, rfl⟩ ?_
   rintro m env σ ⟨a, b, e, rfl, rfl, rfl⟩
   have hla : l.length = a.length + b.length := by rw [e, lA]
   cases b with
   | nil =>
    rw [List.length_nil] at hla
    rw [List.append_nil] at e
    subst e
    repeat' (first | refine goR rfl ?_ | refine goS rfl ?_ | refine tret1 rfl ?_ | refine tretN rfl ?_ | refine gY rfl rfl ?_ | refine gN rfl rfl ?_ | refine qT rfl rfl ?_ | refine qF rfl rfl ?_ | refine qF rfl (dF (by omega)) ?_ | fail)
    refine again (m' := s.bufs.length - 1) (by omega) (w_canon 30 [] [3, 5, 48, 49, 50] hp rfl rfl rfl rfl) ⟨1, by omega, rfl, pushL l, hs1, rfl, rfl⟩
   | cons x b =>
    have hx : l[a.length]? = some x := by rw [e]; exact ix
    simp only [List.length_cons] at hla
    obtain ⟨g1, g2, g3⟩ := pushA_ok a
    have c2 := rpush_own (G := Tabs) (pushL a) g1 (by omega) x
    rw [← pushL_snoc] at c2
    have hw1 : IntKind.i64.wrap ((a.length : Int) + 1) = ((a ++ [x]).length : Int) := by rw [w64 (by omega), lA]; rfl
    obtain ⟨y1, y2⟩ := hel x (by rw [e]; simp)
    repeat' (first | refine goR rfl ?_ | refine goS rfl ?_ | refine tret1 rfl ?_ | refine tretN rfl ?_ | refine gY rfl rfl ?_ | refine gN rfl rfl ?_ | refine qT rfl rfl ?_ | refine qF rfl rfl ?_ | refine qT rfl (dT (by omega)) ?_ | refine lT (tl_ixm rfl rfl rfl hx) ?_ | refine tr_mcallX hP hG (c2) rfl rfl rfl rfl rfl rfl rfl rfl rfl rfl rfl rfl ?_ | refine lT (tl_ixo rfl rfl rfl (Nat.le_of_ble_eq_true rfl)) ?_ | refine lT (tl_ldEC rfl rfl rfl) ?_ | ((first | refine gS rfl (fun h => ?_) (fun h => ?_) | refine ts_cond rfl (fun h => ?_) (fun h => ?_)) <;> (try simp only [bs0, beq_iff_eq] at h) <;> try (exfalso; first | omega | exact h rfl; done)) | fail)
    all_goals refine again (m' := b.length) (Nat.lt_succ_self _) (w_canon 30 [] [3, 5, 6, 48, 49, 50, 55, 56, 57] hp rfl rfl rfl rfl) ⟨a ++ [x], b, by rw [e]; simp, rfl, by rw [hw1], rfl⟩
 ·obtain rfl : t = s.bufs.length := by omega
  rw [List.take_length] at hR
  rw [hR]
  repeat' (first | refine goR rfl ?_ | refine goS rfl ?_ | refine tret1 rfl ?_ | refine tretN rfl ?_ | refine gY rfl rfl ?_ | refine gN rfl rfl ?_ | refine qT rfl rfl ?_ | refine qF rfl rfl ?_ | refine qF rfl (dF (by omega)) ?_ | refine tr_copy rfl rfl (by first | exact e4.symm | exact e5.symm) (.inl rfl) (by first | omega | (rw [e1]; omega) | (rw [e2]; omega)) rfl ?_ | fail)
  have d1 : List.drop (s.mem.map fun n => [tI n]).length (B.mem.map fun n => [tI n]) = [] := List.drop_of_length_le (by omega)
  have d2 : List.drop (s.thr.map cThr).length (B.thr.map cThr) = [] := List.drop_of_length_le (by omega)
  have d3 : B.thr.length = s.thr.length := by omega
  rw [d1, d2, List.append_nil, List.append_nil]
  unfold tsM
  rw [← hm, d3]
  exact tretX 20 [] rfl hp rfl rfl rfl rfl ⟨rfl, rfl⟩
set_option maxHeartbeats 20000000 in
theorem tno_1 (p : Prg) (s : State) (B : State) (hn : p.threads.length = 1) (c1 : TC prog Tabs n_tso_New [.agg (cPrg p)] ⟨[], 0⟩ [] (fun v σ' => v = .p 0 0 ∧ σ' = ⟨tsM p B (atK 1 []) 0, 20⟩)) (hBt : B.thr.length = 1) (hm : s.mem.length = B.mem.length) (hsz : s.mem.length ≤ 1000000000) (ht : s.thr.length = 1) (hbl : s.bufs.length ≤ 1) (hll : ∀ l ∈ s.bufs, l.length ≤ 40000000) (hen : ¬ ∀ l ∈ s.bufs, ∀ e ∈ l, 0 ≤ e.addr ∧ e.addr < s.mem.length) :
  Pure prog Tabs n_tso_At [.agg (cPrg p), .agg (cState s)] (.v (.pointer none)) := by
 have e1 : (s.mem.map fun n => [tI n]).length = s.mem.length := lM ..
 have e2 : (s.thr.map cThr).length = s.thr.length := lM ..
 have e3 : (s.bufs.map cBuf).length = s.bufs.length := lM ..
 have e4 : (B.mem.map fun n => [tI n]).length = B.mem.length := lM ..
 have e5 : (B.thr.map cThr).length = B.thr.length := lM ..
 rw [show atK 1 [] = [Rg.new] from rfl] at c1
 refine Pure.of mixedOk (fn := f_tso_At) (by kernel_rfl) (by kernel_rfl) ok_tso_At rfl fun C hP hG hp => goF ?_; simp only [fs_tso_At, targEnv, Nat.zero_add, Nat.reduceAdd]
 repeat' (first | refine goR rfl ?_ | refine goS rfl ?_ | refine tret1 rfl ?_ | refine tretN rfl ?_ | refine gY rfl rfl ?_ | refine gN rfl rfl ?_ | refine qT rfl rfl ?_ | refine qF rfl rfl ?_ | refine tr_mcallX hP hG (c1) rfl rfl rfl rfl rfl rfl rfl rfl rfl rfl rfl rfl ?_ | ((first | refine gS rfl (fun h => ?_) (fun h => ?_) | refine ts_cond rfl (fun h => ?_) (fun h => ?_)) <;> (try simp only [bs0, beq_iff_eq] at h) <;> try (exfalso; first | omega | exact h rfl; done)) | fail)
 refine loopS (fun m env σ => ∃ t, t ≤ s.bufs.length ∧ m = s.bufs.length - t ∧ (¬ ∀ l ∈ s.bufs.drop t, ∀ e ∈ l, 0 ≤ e.addr ∧ e.addr < s.mem.length) ∧ ∃ r0 : Rg, atK 1 (s.bufs.take t) = [r0] ∧ env = [(3, .p 0 0), (5, .p 1 0), (48, .lst 1 (s.bufs.map cBuf)), (49, tI (s.bufs.map cBuf).length), (50, tI t)] ∧ σ = ⟨(0, .cells (cState s) ty_api_State) :: tsM p B [r0] 1, 30⟩) s.bufs.length (w_canon 30 [] [3, 5, 48, 49, 50] hp rfl rfl rfl rfl) ⟨0, by omega, by omega, by rw [List.drop_zero]; exact hen, Rg.new, rfl, rfl, rfl⟩ ?_
 rintro m env σ ⟨t, htl, rfl, hbad, r0, hR, rfl, rfl⟩
 by_cases hlt : t < s.bufs.length
 ·obtain ⟨l, hl⟩ : ∃ l, s.bufs[t]? = some l := ⟨_, List.getElem?_eq_getElem hlt⟩
  have hlm : l ∈ s.bufs := List.mem_of_getElem? hl
  have hg := atK_get hbl hlt
  have hs1 := atK_set hbl hl
  rw [hR] at hg hs1
  have e6 : (l.map cEntry).length = l.length := lM ..
  have hlb := hll l hlm
  rw [List.drop_eq_getElem_cons hlt, show s.bufs[t] = l from (List.getElem?_eq_some_iff.1 hl).2] at hbad
  have ht8 : t = 0 := by omega
  rcases ht8 with rfl
  ·obtain rfl : r0 = pushL [] := by simpa using hg
   repeat' (first | refine goR rfl ?_ | refine goS rfl ?_ | refine tret1 rfl ?_ | refine tretN rfl ?_ | refine gY rfl rfl ?_ | refine gN rfl rfl ?_ | refine qT rfl rfl ?_ | refine qF rfl rfl ?_ | refine qT rfl (dT (by omega)) ?_ | refine lT (tl_ixm rfl rfl rfl hl) ?_ | fail)
   refine loopS (fun m env σ => ∃ a b, l = a ++ b ∧ m = b.length ∧ (¬ ∀ l' ∈ b :: s.bufs.drop 1, ∀ e ∈ l', 0 ≤ e.addr ∧ e.addr < s.mem.length) ∧ env = [(3, .p 0 0), (5, .p 1 0), (6, tI (0 : Nat)), (48, .lst 1 (s.bufs.map cBuf)), (49, tI (s.bufs.map cBuf).length), (50, tI (0 : Nat)), (55, .lst 2 (l.map cEntry)), (56, tI (l.map cEntry).length), (57, tI a.length)] ∧ σ = ⟨(0, .cells (cState s) ty_api_State) :: tsM p B [pushL a] 1, 30⟩) l.length (w_canon 30 [] [3, 5, 6, 48, 49, 50, 55, 56, 57] hp rfl rfl rfl rfl) ⟨[], l, rfl, rfl, hbad, rfl, rfl⟩ ?_
   rintro m env σ ⟨a, b, e, rfl, hbd, rfl, rfl⟩
   have hla : l.length = a.length + b.length := by rw [e, lA]
   cases b with
   | nil =>
    rw [List.length_nil] at hla
    rw [List.append_nil] at e
    subst e
    repeat' (first | refine goR rfl ?_ | refine goS rfl ?_ | refine tret1 rfl ?_ | refine tretN rfl ?_ | refine gY rfl rfl ?_ | refine gN rfl rfl ?_ | refine qT rfl rfl ?_ | refine qF rfl rfl ?_ | refine qF rfl (dF (by omega)) ?_ | fail)
    have hb3 : ¬ ∀ l' ∈ s.bufs.drop 1, ∀ e ∈ l', 0 ≤ e.addr ∧ e.addr < s.mem.length := fun hh => hbd fun l' h1 e' he' => by
     rcases List.mem_cons.1 h1 with rfl | h1
     ·cases he'
     ·exact hh l' h1 e' he'
    refine again (m' := s.bufs.length - 1) (by omega) (w_canon 30 [] [3, 5, 48, 49, 50] hp rfl rfl rfl rfl) ⟨1, by omega, rfl, hb3, pushL l, hs1, rfl, rfl⟩
   | cons x b =>
    have hx : l[a.length]? = some x := by rw [e]; exact ix
    simp only [List.length_cons] at hla
    obtain ⟨g1, g2, g3⟩ := pushA_ok a
    have c2 := rpush_own (G := Tabs) (pushL a) g1 (by omega) x
    rw [← pushL_snoc] at c2
    have hw1 : IntKind.i64.wrap ((a.length : Int) + 1) = ((a ++ [x]).length : Int) := by rw [w64 (by omega), lA]; rfl
    by_cases hy : 0 ≤ x.addr ∧ x.addr < s.mem.length
    ·have hb2 : ¬ ∀ l' ∈ b :: s.bufs.drop 1, ∀ e ∈ l', 0 ≤ e.addr ∧ e.addr < s.mem.length := by
      intro hh
      refine hbd fun l' h1 e' he' => ?_
      rcases List.mem_cons.1 h1 with rfl | h1
      ·rcases List.mem_cons.1 he' with rfl | he'
       ·exact hy
       ·exact hh b (List.mem_cons_self ..) e' he'
      ·exact hh l' (List.mem_cons_of_mem _ h1) e' he'
     obtain ⟨y1, y2⟩ := hy
     repeat' (first | refine goR rfl ?_ | refine goS rfl ?_ | refine tret1 rfl ?_ | refine tretN rfl ?_ | refine gY rfl rfl ?_ | refine gN rfl rfl ?_ | refine qT rfl rfl ?_ | refine qF rfl rfl ?_ | refine qT rfl (dT (by omega)) ?_ | refine lT (tl_ixm rfl rfl rfl hx) ?_ | refine tr_mcallX hP hG (c2) rfl rfl rfl rfl rfl rfl rfl rfl rfl rfl rfl rfl ?_ | refine lT (tl_ixo rfl rfl rfl (Nat.le_of_ble_eq_true rfl)) ?_ | refine lT (tl_ldEC rfl rfl rfl) ?_ | ((first | refine gS rfl (fun h => ?_) (fun h => ?_) | refine ts_cond rfl (fun h => ?_) (fun h => ?_)) <;> (try simp only [bs0, beq_iff_eq] at h) <;> try (exfalso; first | omega | exact h rfl; done)) | fail)
     all_goals refine again (m' := b.length) (Nat.lt_succ_self _) (w_canon 30 [] [3, 5, 6, 48, 49, 50, 55, 56, 57] hp rfl rfl rfl rfl) ⟨a ++ [x], b, by rw [e]; simp, rfl, hb2, by rw [hw1], rfl⟩
    ·repeat' (first | refine goR rfl ?_ | refine goS rfl ?_ | refine tret1 rfl ?_ | refine tretN rfl ?_ | refine gY rfl rfl ?_ | refine gN rfl rfl ?_ | refine qT rfl rfl ?_ | refine qF rfl rfl ?_ | refine qT rfl (dT (by omega)) ?_ | refine lT (tl_ixm rfl rfl rfl hx) ?_ | ((first | refine gS rfl (fun h => ?_) (fun h => ?_) | refine ts_cond rfl (fun h => ?_) (fun h => ?_)) <;> (try simp only [bs0, beq_iff_eq] at h) <;> try (exfalso; first | omega | exact h rfl; done)) | fail)
     all_goals exact .fr rfl
 ·obtain rfl : t = s.bufs.length := by omega
  exact absurd (fun l hl => by rw [List.drop_length] at hl; cases hl) hbad
set_option maxHeartbeats 20000000 in
theorem tat_2 (p : Prg) (s : State) (B : State) (hn : p.threads.length = 2) (c1 : TC prog Tabs n_tso_New [.agg (cPrg p)] ⟨[], 0⟩ [] (fun v σ' => v = .p 0 0 ∧ σ' = ⟨tsM p B (atK 2 []) 0, 20⟩)) (hBt : B.thr.length = 2) (hm : s.mem.length = B.mem.length) (hsz : s.mem.length ≤ 1000000000) (ht : s.thr.length = 2) (hbl : s.bufs.length ≤ 2) (hll : ∀ l ∈ s.bufs, l.length ≤ 40000000) (hen : ∀ l ∈ s.bufs, ∀ e ∈ l, 0 ≤ e.addr ∧ e.addr < s.mem.length) :
  TC prog Tabs n_tso_At [.agg (cPrg p), .agg (cState s)] ⟨[], 0⟩ [] (fun v σ' => v = .p 0 0 ∧ σ' = ⟨tsM p s (atK 2 s.bufs) 0, 20⟩) := by
 have e1 : (s.mem.map fun n => [tI n]).length = s.mem.length := lM ..
 have e2 : (s.thr.map cThr).length = s.thr.length := lM ..
 have e3 : (s.bufs.map cBuf).length = s.bufs.length := lM ..
 have e4 : (B.mem.map fun n => [tI n]).length = B.mem.length := lM ..
 have e5 : (B.thr.map cThr).length = B.thr.length := lM ..
 rw [show atK 2 [] = [Rg.new, Rg.new] from rfl] at c1
 refine TC.of mixedOk (fn := f_tso_At) (by kernel_rfl) (by kernel_rfl) ok_tso_At rfl fun C hP hG hp => goF ?_; simp only [fs_tso_At, targEnv, Nat.zero_add, Nat.reduceAdd]
 repeat' (first | refine goR rfl ?_ | refine goS rfl ?_ | refine tret1 rfl ?_ | refine tretN rfl ?_ | refine gY rfl rfl ?_ | refine gN rfl rfl ?_ | refine qT rfl rfl ?_ | refine qF rfl rfl ?_ | refine tr_mcallX hP hG (c1) rfl rfl rfl rfl rfl rfl rfl rfl rfl rfl rfl rfl ?_ | ((first | refine gS rfl (fun h => ?_) (fun h => ?_) | refine ts_cond rfl (fun h => ?_) (fun h => ?_)) <;> (try simp only [bs0, beq_iff_eq] at h) <;> try (exfalso; first | omega | exact h rfl; done)) | fail)
 refine loopS (fun m env σ => ∃ t, t ≤ s.bufs.length ∧ m = s.bufs.length - t ∧ ∃ r0 r1 : Rg, atK 2 (s.bufs.take t) = [r0, r1] ∧ env = [(3, .p 0 0), (5, .p 1 0), (48, .lst 1 (s.bufs.map cBuf)), (49, tI (s.bufs.map cBuf).length), (50, tI t)] ∧ σ = ⟨(0, .cells (cState s) ty_api_State) :: tsM p B [r0, r1] 1, 30⟩) s.bufs.length (w_canon 30 [] [3, 5, 48, 49, 50] hp rfl rfl rfl rfl) ⟨0, by omega, by omega, Rg.new, Rg.new, rfl, rfl, rfl⟩ ?_
 rintro m env σ ⟨t, htl, rfl, r0, r1, hR, rfl, rfl⟩
 by_cases hlt : t < s.bufs.length
 ·obtain ⟨l, hl⟩ : ∃ l, s.bufs[t]? = some l := ⟨_, List.getElem?_eq_getElem hlt⟩
  have hlm : l ∈ s.bufs := List.mem_of_getElem? hl
  have hg := atK_get hbl hlt
  have hs1 := atK_set hbl hl
  rw [hR] at hg hs1
  have e6 : (l.map cEntry).length = l.length := lM ..
  have hlb := hll l hlm
  have hel := hen l hlm
  have ht8 : t = 0 ∨ t = 1 := by omega
  rcases ht8 with rfl | rfl
  ·obtain rfl : r0 = pushL [] := by simpa using hg
   repeat' (first | refine goR rfl ?_ | refine goS rfl ?_ | refine tret1 rfl ?_ | refine tretN rfl ?_ | refine gY rfl rfl ?_ | refine gN rfl rfl ?_ | refine qT rfl rfl ?_ | refine qF rfl rfl ?_ | refine qT rfl (dT (by omega)) ?_ | refine lT (tl_ixm rfl rfl rfl hl) ?_ | fail)
   refine loopS (fun m env σ => ∃ a b, l = a ++ b ∧ m = b.length ∧ env = [(3, .p 0 0), (5, .p 1 0), (6, tI (0 : Nat)), (48, .lst 1 (s.bufs.map cBuf)), (49, tI (s.bufs.map cBuf).length), (50, tI (0 : Nat)), (55, .lst 2 (l.map cEntry)), (56, tI (l.map cEntry).length), (57, tI a.length)] ∧ σ = ⟨(0, .cells (cState s) ty_api_State) :: tsM p B [pushL a, r1] 1, 30⟩) l.length (w_canon 30 [] [3, 5, 6, 48, 49, 50, 55, 56, 57] hp rfl rfl rfl rfl) ⟨[], l, rfl, rfl, rfl, rfl⟩ ?_
   rintro m env σ ⟨a, b, e, rfl, rfl, rfl⟩
   have hla : l.length = a.length + b.length := by rw [e, lA]
   cases b with
   | nil =>
    rw [List.length_nil] at hla
    rw [List.append_nil] at e
    subst e
    repeat' (first | refine goR rfl ?_ | refine goS rfl ?_ | refine tret1 rfl ?_ | refine tretN rfl ?_ | refine gY rfl rfl ?_ | refine gN rfl rfl ?_ | refine qT rfl rfl ?_ | refine qF rfl rfl ?_ | refine qF rfl (dF (by omega)) ?_ | fail)
    refine again (m' := s.bufs.length - 1) (by omega) (w_canon 30 [] [3, 5, 48, 49, 50] hp rfl rfl rfl rfl) ⟨1, by omega, rfl, pushL l, r1, hs1, rfl, rfl⟩
   | cons x b =>
    have hx : l[a.length]? = some x := by rw [e]; exact ix
    simp only [List.length_cons] at hla
    obtain ⟨g1, g2, g3⟩ := pushA_ok a
    have c2 := rpush_own (G := Tabs) (pushL a) g1 (by omega) x
    rw [← pushL_snoc] at c2
    have hw1 : IntKind.i64.wrap ((a.length : Int) + 1) = ((a ++ [x]).length : Int) := by rw [w64 (by omega), lA]; rfl
    obtain ⟨y1, y2⟩ := hel x (by rw [e]; simp)
    repeat' (first | refine goR rfl ?_ | refine goS rfl ?_ | refine tret1 rfl ?_ | refine tretN rfl ?_ | refine gY rfl rfl ?_ | refine gN rfl rfl ?_ | refine qT rfl rfl ?_ | refine qF rfl rfl ?_ | refine qT rfl (dT (by omega)) ?_ | refine lT (tl_ixm rfl rfl rfl hx) ?_ | refine tr_mcallX hP hG (c2) rfl rfl rfl rfl rfl rfl rfl rfl rfl rfl rfl rfl ?_ | refine lT (tl_ixo rfl rfl rfl (Nat.le_of_ble_eq_true rfl)) ?_ | refine lT (tl_ldEC rfl rfl rfl) ?_ | ((first | refine gS rfl (fun h => ?_) (fun h => ?_) | refine ts_cond rfl (fun h => ?_) (fun h => ?_)) <;> (try simp only [bs0, beq_iff_eq] at h) <;> try (exfalso; first | omega | exact h rfl; done)) | fail)
    all_goals refine again (m' := b.length) (Nat.lt_succ_self _) (w_canon 30 [] [3, 5, 6, 48, 49, 50, 55, 56, 57] hp rfl rfl rfl rfl) ⟨a ++ [x], b, by rw [e]; simp, rfl, by rw [hw1], rfl⟩
  ·obtain rfl : r1 = pushL [] := by simpa using hg
   repeat' (first | refine goR rfl ?_ | refine goS rfl ?_ | refine tret1 rfl ?_ | refine tretN rfl ?_ | refine gY rfl rfl ?_ | refine gN rfl rfl ?_ | refine qT rfl rfl ?_ | refine qF rfl rfl ?_ | refine qT rfl (dT (by omega)) ?_ | refine lT (tl_ixm rfl rfl rfl hl) ?_ | fail)
   refine loopS (fun m env σ => ∃ a b, l = a ++ b ∧ m = b.length ∧ env = [(3, .p 0 0), (5, .p 1 0), (6, tI (1 : Nat)), (48, .lst 1 (s.bufs.map cBuf)), (49, tI (s.bufs.map cBuf).length), (50, tI (1 : Nat)), (55, .lst 2 (l.map cEntry)), (56, tI (l.map cEntry).length), (57, tI a.length)] ∧ σ = ⟨(0, .cells (cState s) ty_api_State) :: tsM p B [r0, pushL a] 1, 30⟩) l.length (w_canon 30 [] [3, 5, 6, 48, 49, 50, 55, 56, 57] hp rfl rfl rfl rfl) ⟨[], l, rfl, rfl, rfl, rfl⟩ ?_
   rintro m env σ ⟨a, b, e, rfl, rfl, rfl⟩
   have hla : l.length = a.length + b.length := by rw [e, lA]
   cases b with
   | nil =>
    rw [List.length_nil] at hla
    rw [List.append_nil] at e
    subst e
    repeat' (first | refine goR rfl ?_ | refine goS rfl ?_ | refine tret1 rfl ?_ | refine tretN rfl ?_ | refine gY rfl rfl ?_ | refine gN rfl rfl ?_ | refine qT rfl rfl ?_ | refine qF rfl rfl ?_ | refine qF rfl (dF (by omega)) ?_ | fail)
    refine again (m' := s.bufs.length - 2) (by omega) (w_canon 30 [] [3, 5, 48, 49, 50] hp rfl rfl rfl rfl) ⟨2, by omega, rfl, r0, pushL l, hs1, rfl, rfl⟩
   | cons x b =>
    have hx : l[a.length]? = some x := by rw [e]; exact ix
    simp only [List.length_cons] at hla
    obtain ⟨g1, g2, g3⟩ := pushA_ok a
    have c2 := rpush_own (G := Tabs) (pushL a) g1 (by omega) x
    rw [← pushL_snoc] at c2
    have hw1 : IntKind.i64.wrap ((a.length : Int) + 1) = ((a ++ [x]).length : Int) := by rw [w64 (by omega), lA]; rfl
    obtain ⟨y1, y2⟩ := hel x (by rw [e]; simp)
    repeat' (first | refine goR rfl ?_ | refine goS rfl ?_ | refine tret1 rfl ?_ | refine tretN rfl ?_ | refine gY rfl rfl ?_ | refine gN rfl rfl ?_ | refine qT rfl rfl ?_ | refine qF rfl rfl ?_ | refine qT rfl (dT (by omega)) ?_ | refine lT (tl_ixm rfl rfl rfl hx) ?_ | refine tr_mcallX hP hG (c2) rfl rfl rfl rfl rfl rfl rfl rfl rfl rfl rfl rfl ?_ | refine lT (tl_ixo rfl rfl rfl (Nat.le_of_ble_eq_true rfl)) ?_ | refine lT (tl_ldEC rfl rfl rfl) ?_ | ((first | refine gS rfl (fun h => ?_) (fun h => ?_) | refine ts_cond rfl (fun h => ?_) (fun h => ?_)) <;> (try simp only [bs0, beq_iff_eq] at h) <;> try (exfalso; first | omega | exact h rfl; done)) | fail)
    all_goals refine again (m' := b.length) (Nat.lt_succ_self _) (w_canon 30 [] [3, 5, 6, 48, 49, 50, 55, 56, 57] hp rfl rfl rfl rfl) ⟨a ++ [x], b, by rw [e]; simp, rfl, by rw [hw1], rfl⟩
 ·obtain rfl : t = s.bufs.length := by omega
  rw [List.take_length] at hR
  rw [hR]
  repeat' (first | refine goR rfl ?_ | refine goS rfl ?_ | refine tret1 rfl ?_ | refine tretN rfl ?_ | refine gY rfl rfl ?_ | refine gN rfl rfl ?_ | refine qT rfl rfl ?_ | refine qF rfl rfl ?_ | refine qF rfl (dF (by omega)) ?_ | refine tr_copy rfl rfl (by first | exact e4.symm | exact e5.symm) (.inl rfl) (by first | omega | (rw [e1]; omega) | (rw [e2]; omega)) rfl ?_ | fail)
  have d1 : List.drop (s.mem.map fun n => [tI n]).length (B.mem.map fun n => [tI n]) = [] := List.drop_of_length_le (by omega)
  have d2 : List.drop (s.thr.map cThr).length (B.thr.map cThr) = [] := List.drop_of_length_le (by omega)
  have d3 : B.thr.length = s.thr.length := by omega
  rw [d1, d2, List.append_nil, List.append_nil]
  unfold tsM
  rw [← hm, d3]
  exact tretX 20 [] rfl hp rfl rfl rfl rfl ⟨rfl, rfl⟩
set_option maxHeartbeats 20000000 in
theorem tno_2 (p : Prg) (s : State) (B : State) (hn : p.threads.length = 2) (c1 : TC prog Tabs n_tso_New [.agg (cPrg p)] ⟨[], 0⟩ [] (fun v σ' => v = .p 0 0 ∧ σ' = ⟨tsM p B (atK 2 []) 0, 20⟩)) (hBt : B.thr.length = 2) (hm : s.mem.length = B.mem.length) (hsz : s.mem.length ≤ 1000000000) (ht : s.thr.length = 2) (hbl : s.bufs.length ≤ 2) (hll : ∀ l ∈ s.bufs, l.length ≤ 40000000) (hen : ¬ ∀ l ∈ s.bufs, ∀ e ∈ l, 0 ≤ e.addr ∧ e.addr < s.mem.length) :
  Pure prog Tabs n_tso_At [.agg (cPrg p), .agg (cState s)] (.v (.pointer none)) := by
 have e1 : (s.mem.map fun n => [tI n]).length = s.mem.length := lM ..
 have e2 : (s.thr.map cThr).length = s.thr.length := lM ..
 have e3 : (s.bufs.map cBuf).length = s.bufs.length := lM ..
 have e4 : (B.mem.map fun n => [tI n]).length = B.mem.length := lM ..
 have e5 : (B.thr.map cThr).length = B.thr.length := lM ..
 rw [show atK 2 [] = [Rg.new, Rg.new] from rfl] at c1
 refine Pure.of mixedOk (fn := f_tso_At) (by kernel_rfl) (by kernel_rfl) ok_tso_At rfl fun C hP hG hp => goF ?_; simp only [fs_tso_At, targEnv, Nat.zero_add, Nat.reduceAdd]
 repeat' (first | refine goR rfl ?_ | refine goS rfl ?_ | refine tret1 rfl ?_ | refine tretN rfl ?_ | refine gY rfl rfl ?_ | refine gN rfl rfl ?_ | refine qT rfl rfl ?_ | refine qF rfl rfl ?_ | refine tr_mcallX hP hG (c1) rfl rfl rfl rfl rfl rfl rfl rfl rfl rfl rfl rfl ?_ | ((first | refine gS rfl (fun h => ?_) (fun h => ?_) | refine ts_cond rfl (fun h => ?_) (fun h => ?_)) <;> (try simp only [bs0, beq_iff_eq] at h) <;> try (exfalso; first | omega | exact h rfl; done)) | fail)
 refine loopS (fun m env σ => ∃ t, t ≤ s.bufs.length ∧ m = s.bufs.length - t ∧ (¬ ∀ l ∈ s.bufs.drop t, ∀ e ∈ l, 0 ≤ e.addr ∧ e.addr < s.mem.length) ∧ ∃ r0 r1 : Rg, atK 2 (s.bufs.take t) = [r0, r1] ∧ env = [(3, .p 0 0), (5, .p 1 0), (48, .lst 1 (s.bufs.map cBuf)), (49, tI (s.bufs.map cBuf).length), (50, tI t)] ∧ σ = ⟨(0, .cells (cState s) ty_api_State) :: tsM p B [r0, r1] 1, 30⟩) s.bufs.length (w_canon 30 [] [3, 5, 48, 49, 50] hp rfl rfl rfl rfl) ⟨0, by omega, by omega, by rw [List.drop_zero]; exact hen, Rg.new, Rg.new, rfl, rfl, rfl⟩ ?_
 rintro m env σ ⟨t, htl, rfl, hbad, r0, r1, hR, rfl, rfl⟩
 by_cases hlt : t < s.bufs.length
 ·obtain ⟨l, hl⟩ : ∃ l, s.bufs[t]? = some l := ⟨_, List.getElem?_eq_getElem hlt⟩
  have hlm : l ∈ s.bufs := List.mem_of_getElem? hl
  have hg := atK_get hbl hlt
  have hs1 := atK_set hbl hl
  rw [hR] at hg hs1
  have e6 : (l.map cEntry).length = l.length := lM ..
  have hlb := hll l hlm
  rw [List.drop_eq_getElem_cons hlt, show s.bufs[t] = l from (List.getElem?_eq_some_iff.1 hl).2] at hbad
  have ht8 : t = 0 ∨ t = 1 := by omega
  rcases ht8 with rfl | rfl
  ·obtain rfl : r0 = pushL [] := by simpa using hg
   repeat' (first | refine goR rfl ?_ | refine goS rfl ?_ | refine tret1 rfl ?_ | refine tretN rfl ?_ | refine gY rfl rfl ?_ | refine gN rfl rfl ?_ | refine qT rfl rfl ?_ | refine qF rfl rfl ?_ | refine qT rfl (dT (by omega)) ?_ | refine lT (tl_ixm rfl rfl rfl hl) ?_ | fail)
   refine loopS (fun m env σ => ∃ a b, l = a ++ b ∧ m = b.length ∧ (¬ ∀ l' ∈ b :: s.bufs.drop 1, ∀ e ∈ l', 0 ≤ e.addr ∧ e.addr < s.mem.length) ∧ env = [(3, .p 0 0), (5, .p 1 0), (6, tI (0 : Nat)), (48, .lst 1 (s.bufs.map cBuf)), (49, tI (s.bufs.map cBuf).length), (50, tI (0 : Nat)), (55, .lst 2 (l.map cEntry)), (56, tI (l.map cEntry).length), (57, tI a.length)] ∧ σ = ⟨(0, .cells (cState s) ty_api_State) :: tsM p B [pushL a, r1] 1, 30⟩) l.length (w_canon 30 [] [3, 5, 6, 48, 49, 50, 55, 56, 57] hp rfl rfl rfl rfl) ⟨[], l, rfl, rfl, hbad, rfl, rfl⟩ ?_
   rintro m env σ ⟨a, b, e, rfl, hbd, rfl, rfl⟩
   have hla : l.length = a.length + b.length := by rw [e, lA]
   cases b with
   | nil =>
    rw [List.length_nil] at hla
    rw [List.append_nil] at e
    subst e
    repeat' (first | refine goR rfl ?_ | refine goS rfl ?_ | refine tret1 rfl ?_ | refine tretN rfl ?_ | refine gY rfl rfl ?_ | refine gN rfl rfl ?_ | refine qT rfl rfl ?_ | refine qF rfl rfl ?_ | refine qF rfl (dF (by omega)) ?_ | fail)
    have hb3 : ¬ ∀ l' ∈ s.bufs.drop 1, ∀ e ∈ l', 0 ≤ e.addr ∧ e.addr < s.mem.length := fun hh => hbd fun l' h1 e' he' => by
     rcases List.mem_cons.1 h1 with rfl | h1
     ·cases he'
     ·exact hh l' h1 e' he'
    refine again (m' := s.bufs.length - 1) (by omega) (w_canon 30 [] [3, 5, 48, 49, 50] hp rfl rfl rfl rfl) ⟨1, by omega, rfl, hb3, pushL l, r1, hs1, rfl, rfl⟩
   | cons x b =>
    have hx : l[a.length]? = some x := by rw [e]; exact ix
    simp only [List.length_cons] at hla
    obtain ⟨g1, g2, g3⟩ := pushA_ok a
    have c2 := rpush_own (G := Tabs) (pushL a) g1 (by omega) x
    rw [← pushL_snoc] at c2
    have hw1 : IntKind.i64.wrap ((a.length : Int) + 1) = ((a ++ [x]).length : Int) := by rw [w64 (by omega), lA]; rfl
    by_cases hy : 0 ≤ x.addr ∧ x.addr < s.mem.length
    ·have hb2 : ¬ ∀ l' ∈ b :: s.bufs.drop 1, ∀ e ∈ l', 0 ≤ e.addr ∧ e.addr < s.mem.length := by
      intro hh
      refine hbd fun l' h1 e' he' => ?_
      rcases List.mem_cons.1 h1 with rfl | h1
      ·rcases List.mem_cons.1 he' with rfl | he'
       ·exact hy
       ·exact hh b (List.mem_cons_self ..) e' he'
      ·exact hh l' (List.mem_cons_of_mem _ h1) e' he'
     obtain ⟨y1, y2⟩ := hy
     repeat' (first | refine goR rfl ?_ | refine goS rfl ?_ | refine tret1 rfl ?_ | refine tretN rfl ?_ | refine gY rfl rfl ?_ | refine gN rfl rfl ?_ | refine qT rfl rfl ?_ | refine qF rfl rfl ?_ | refine qT rfl (dT (by omega)) ?_ | refine lT (tl_ixm rfl rfl rfl hx) ?_ | refine tr_mcallX hP hG (c2) rfl rfl rfl rfl rfl rfl rfl rfl rfl rfl rfl rfl ?_ | refine lT (tl_ixo rfl rfl rfl (Nat.le_of_ble_eq_true rfl)) ?_ | refine lT (tl_ldEC rfl rfl rfl) ?_ | ((first | refine gS rfl (fun h => ?_) (fun h => ?_) | refine ts_cond rfl (fun h => ?_) (fun h => ?_)) <;> (try simp only [bs0, beq_iff_eq] at h) <;> try (exfalso; first | omega | exact h rfl; done)) | fail)
     all_goals refine again (m' := b.length) (Nat.lt_succ_self _) (w_canon 30 [] [3, 5, 6, 48, 49, 50, 55, 56, 57] hp rfl rfl rfl rfl) ⟨a ++ [x], b, by rw [e]; simp, rfl, hb2, by rw [hw1], rfl⟩
    ·repeat' (first | refine goR rfl ?_ | refine goS rfl ?_ | refine tret1 rfl ?_ | refine tretN rfl ?_ | refine gY rfl rfl ?_ | refine gN rfl rfl ?_ | refine qT rfl rfl ?_ | refine qF rfl rfl ?_ | refine qT rfl (dT (by omega)) ?_ | refine lT (tl_ixm rfl rfl rfl hx) ?_ | ((first | refine gS rfl (fun h => ?_) (fun h => ?_) | refine ts_cond rfl (fun h => ?_) (fun h => ?_)) <;> (try simp only [bs0, beq_iff_eq] at h) <;> try (exfalso; first | omega | exact h rfl; done)) | fail)
     all_goals exact .fr rfl
  ·obtain rfl : r1 = pushL [] := by simpa using hg
   repeat' (first | refine goR rfl ?_ | refine goS rfl ?_ | refine tret1 rfl ?_ | refine tretN rfl ?_ | refine gY rfl rfl ?_ | refine gN rfl rfl ?_ | refine qT rfl rfl ?_ | refine qF rfl rfl ?_ | refine qT rfl (dT (by omega)) ?_ | refine lT (tl_ixm rfl rfl rfl hl) ?_ | fail)
   refine loopS (fun m env σ => ∃ a b, l = a ++ b ∧ m = b.length ∧ (¬ ∀ l' ∈ b :: s.bufs.drop 2, ∀ e ∈ l', 0 ≤ e.addr ∧ e.addr < s.mem.length) ∧ env = [(3, .p 0 0), (5, .p 1 0), (6, tI (1 : Nat)), (48, .lst 1 (s.bufs.map cBuf)), (49, tI (s.bufs.map cBuf).length), (50, tI (1 : Nat)), (55, .lst 2 (l.map cEntry)), (56, tI (l.map cEntry).length), (57, tI a.length)] ∧ σ = ⟨(0, .cells (cState s) ty_api_State) :: tsM p B [r0, pushL a] 1, 30⟩) l.length (w_canon 30 [] [3, 5, 6, 48, 49, 50, 55, 56, 57] hp rfl rfl rfl rfl) ⟨[], l, rfl, rfl, hbad, rfl, rfl⟩ ?_
   rintro m env σ ⟨a, b, e, rfl, hbd, rfl, rfl⟩
   have hla : l.length = a.length + b.length := by rw [e, lA]
   cases b with
   | nil =>
    rw [List.length_nil] at hla
    rw [List.append_nil] at e
    subst e
    repeat' (first | refine goR rfl ?_ | refine goS rfl ?_ | refine tret1 rfl ?_ | refine tretN rfl ?_ | refine gY rfl rfl ?_ | refine gN rfl rfl ?_ | refine qT rfl rfl ?_ | refine qF rfl rfl ?_ | refine qF rfl (dF (by omega)) ?_ | fail)
    have hb3 : ¬ ∀ l' ∈ s.bufs.drop 2, ∀ e ∈ l', 0 ≤ e.addr ∧ e.addr < s.mem.length := fun hh => hbd fun l' h1 e' he' => by
     rcases List.mem_cons.1 h1 with rfl | h1
     ·cases he'
     ·exact hh l' h1 e' he'
    refine again (m' := s.bufs.length - 2) (by omega) (w_canon 30 [] [3, 5, 48, 49, 50] hp rfl rfl rfl rfl) ⟨2, by omega, rfl, hb3, r0, pushL l, hs1, rfl, rfl⟩
   | cons x b =>
    have hx : l[a.length]? = some x := by rw [e]; exact ix
    simp only [List.length_cons] at hla
    obtain ⟨g1, g2, g3⟩ := pushA_ok a
    have c2 := rpush_own (G := Tabs) (pushL a) g1 (by omega) x
    rw [← pushL_snoc] at c2
    have hw1 : IntKind.i64.wrap ((a.length : Int) + 1) = ((a ++ [x]).length : Int) := by rw [w64 (by omega), lA]; rfl
    by_cases hy : 0 ≤ x.addr ∧ x.addr < s.mem.length
    ·have hb2 : ¬ ∀ l' ∈ b :: s.bufs.drop 2, ∀ e ∈ l', 0 ≤ e.addr ∧ e.addr < s.mem.length := by
      intro hh
      refine hbd fun l' h1 e' he' => ?_
      rcases List.mem_cons.1 h1 with rfl | h1
      ·rcases List.mem_cons.1 he' with rfl | he'
       ·exact hy
       ·exact hh b (List.mem_cons_self ..) e' he'
      ·exact hh l' (List.mem_cons_of_mem _ h1) e' he'
     obtain ⟨y1, y2⟩ := hy
     repeat' (first | refine goR rfl ?_ | refine goS rfl ?_ | refine tret1 rfl ?_ | refine tretN rfl ?_ | refine gY rfl rfl ?_ | refine gN rfl rfl ?_ | refine qT rfl rfl ?_ | refine qF rfl rfl ?_ | refine qT rfl (dT (by omega)) ?_ | refine lT (tl_ixm rfl rfl rfl hx) ?_ | refine tr_mcallX hP hG (c2) rfl rfl rfl rfl rfl rfl rfl rfl rfl rfl rfl rfl ?_ | refine lT (tl_ixo rfl rfl rfl (Nat.le_of_ble_eq_true rfl)) ?_ | refine lT (tl_ldEC rfl rfl rfl) ?_ | ((first | refine gS rfl (fun h => ?_) (fun h => ?_) | refine ts_cond rfl (fun h => ?_) (fun h => ?_)) <;> (try simp only [bs0, beq_iff_eq] at h) <;> try (exfalso; first | omega | exact h rfl; done)) | fail)
     all_goals refine again (m' := b.length) (Nat.lt_succ_self _) (w_canon 30 [] [3, 5, 6, 48, 49, 50, 55, 56, 57] hp rfl rfl rfl rfl) ⟨a ++ [x], b, by rw [e]; simp, rfl, hb2, by rw [hw1], rfl⟩
    ·repeat' (first | refine goR rfl ?_ | refine goS rfl ?_ | refine tret1 rfl ?_ | refine tretN rfl ?_ | refine gY rfl rfl ?_ | refine gN rfl rfl ?_ | refine qT rfl rfl ?_ | refine qF rfl rfl ?_ | refine qT rfl (dT (by omega)) ?_ | refine lT (tl_ixm rfl rfl rfl hx) ?_ | ((first | refine gS rfl (fun h => ?_) (fun h => ?_) | refine ts_cond rfl (fun h => ?_) (fun h => ?_)) <;> (try simp only [bs0, beq_iff_eq] at h) <;> try (exfalso; first | omega | exact h rfl; done)) | fail)
     all_goals exact .fr rfl
 ·obtain rfl : t = s.bufs.length := by omega
  exact absurd (fun l hl => by rw [List.drop_length] at hl; cases hl) hbad
set_option maxHeartbeats 20000000 in
theorem tat_3 (p : Prg) (s : State) (B : State) (hn : p.threads.length = 3) (c1 : TC prog Tabs n_tso_New [.agg (cPrg p)] ⟨[], 0⟩ [] (fun v σ' => v = .p 0 0 ∧ σ' = ⟨tsM p B (atK 3 []) 0, 20⟩)) (hBt : B.thr.length = 3) (hm : s.mem.length = B.mem.length) (hsz : s.mem.length ≤ 1000000000) (ht : s.thr.length = 3) (hbl : s.bufs.length ≤ 3) (hll : ∀ l ∈ s.bufs, l.length ≤ 40000000) (hen : ∀ l ∈ s.bufs, ∀ e ∈ l, 0 ≤ e.addr ∧ e.addr < s.mem.length) :
  TC prog Tabs n_tso_At [.agg (cPrg p), .agg (cState s)] ⟨[], 0⟩ [] (fun v σ' => v = .p 0 0 ∧ σ' = ⟨tsM p s (atK 3 s.bufs) 0, 20⟩) := by
 have e1 : (s.mem.map fun n => [tI n]).length = s.mem.length := lM ..
 have e2 : (s.thr.map cThr).length = s.thr.length := lM ..
 have e3 : (s.bufs.map cBuf).length = s.bufs.length := lM ..
 have e4 : (B.mem.map fun n => [tI n]).length = B.mem.length := lM ..
 have e5 : (B.thr.map cThr).length = B.thr.length := lM ..
 rw [show atK 3 [] = [Rg.new, Rg.new, Rg.new] from rfl] at c1
 refine TC.of mixedOk (fn := f_tso_At) (by kernel_rfl) (by kernel_rfl) ok_tso_At rfl fun C hP hG hp => goF ?_; simp only [fs_tso_At, targEnv, Nat.zero_add, Nat.reduceAdd]
 repeat' (first | refine goR rfl ?_ | refine goS rfl ?_ | refine tret1 rfl ?_ | refine tretN rfl ?_ | refine gY rfl rfl ?_ | refine gN rfl rfl ?_ | refine qT rfl rfl ?_ | refine qF rfl rfl ?_ | refine tr_mcallX hP hG (c1) rfl rfl rfl rfl rfl rfl rfl rfl rfl rfl rfl rfl ?_ | ((first | refine gS rfl (fun h => ?_) (fun h => ?_) | refine ts_cond rfl (fun h => ?_) (fun h => ?_)) <;> (try simp only [bs0, beq_iff_eq] at h) <;> try (exfalso; first | omega | exact h rfl; done)) | fail)
 refine loopS (fun m env σ => ∃ t, t ≤ s.bufs.length ∧ m = s.bufs.length - t ∧ ∃ r0 r1 r2 : Rg, atK 3 (s.bufs.take t) = [r0, r1, r2] ∧ env = [(3, .p 0 0), (5, .p 1 0), (48, .lst 1 (s.bufs.map cBuf)), (49, tI (s.bufs.map cBuf).length), (50, tI t)] ∧ σ = ⟨(0, .cells (cState s) ty_api_State) :: tsM p B [r0, r1, r2] 1, 30⟩) s.bufs.length (w_canon 30 [] [3, 5, 48, 49, 50] hp rfl rfl rfl rfl) ⟨0, by omega, by omega, Rg.new, Rg.new, Rg.new, rfl, rfl, rfl⟩ ?_
 rintro m env σ ⟨t, htl, rfl, r0, r1, r2, hR, rfl, rfl⟩
 by_cases hlt : t < s.bufs.length
 ·obtain ⟨l, hl⟩ : ∃ l, s.bufs[t]? = some l := ⟨_, List.getElem?_eq_getElem hlt⟩
  have hlm : l ∈ s.bufs := List.mem_of_getElem? hl
  have hg := atK_get hbl hlt
  have hs1 := atK_set hbl hl
  rw [hR] at hg hs1
  have e6 : (l.map cEntry).length = l.length := lM ..
  have hlb := hll l hlm
  have hel := hen l hlm
  have ht8 : t = 0 ∨ t = 1 ∨ t = 2 := by omega
  rcases ht8 with rfl | rfl | rfl
  ·obtain rfl : r0 = pushL [] := by simpa using hg
   repeat' (first | refine goR rfl ?_ | refine goS rfl ?_ | refine tret1 rfl ?_ | refine tretN rfl ?_ | refine gY rfl rfl ?_ | refine gN rfl rfl ?_ | refine qT rfl rfl ?_ | refine qF rfl rfl ?_ | refine qT rfl (dT (by omega)) ?_ | refine lT (tl_ixm rfl rfl rfl hl) ?_ | fail)
   refine loopS (fun m env σ => ∃ a b, l = a ++ b ∧ m = b.length ∧ env = [(3, .p 0 0), (5, .p 1 0), (6, tI (0 : Nat)), (48, .lst 1 (s.bufs.map cBuf)), (49, tI (s.bufs.map cBuf).length), (50, tI (0 : Nat)), (55, .lst 2 (l.map cEntry)), (56, tI (l.map cEntry).length), (57, tI a.length)] ∧ σ = ⟨(0, .cells (cState s) ty_api_State) :: tsM p B [pushL a, r1, r2] 1, 30⟩) l.length (w_canon 30 [] [3, 5, 6, 48, 49, 50, 55, 56, 57] hp rfl rfl rfl rfl) ⟨[], l, rfl, rfl, rfl, rfl⟩ ?_
   rintro m env σ ⟨a, b, e, rfl, rfl, rfl⟩
   have hla : l.length = a.length + b.length := by rw [e, lA]
   cases b with
   | nil =>
    rw [List.length_nil] at hla
    rw [List.append_nil] at e
    subst e
    repeat' (first | refine goR rfl ?_ | refine goS rfl ?_ | refine tret1 rfl ?_ | refine tretN rfl ?_ | refine gY rfl rfl ?_ | refine gN rfl rfl ?_ | refine qT rfl rfl ?_ | refine qF rfl rfl ?_ | refine qF rfl (dF (by omega)) ?_ | fail)
    refine again (m' := s.bufs.length - 1) (by omega) (w_canon 30 [] [3, 5, 48, 49, 50] hp rfl rfl rfl rfl) ⟨1, by omega, rfl, pushL l, r1, r2, hs1, rfl, rfl⟩
   | cons x b =>
    have hx : l[a.length]? = some x := by rw [e]; exact ix
    simp only [List.length_cons] at hla
    obtain ⟨g1, g2, g3⟩ := pushA_ok a
    have c2 := rpush_own (G := Tabs) (pushL a) g1 (by omega) x
    rw [← pushL_snoc] at c2
    have hw1 : IntKind.i64.wrap ((a.length : Int) + 1) = ((a ++ [x]).length : Int) := by rw [w64 (by omega), lA]; rfl
    obtain ⟨y1, y2⟩ := hel x (by rw [e]; simp)
    repeat' (first | refine goR rfl ?_ | refine goS rfl ?_ | refine tret1 rfl ?_ | refine tretN rfl ?_ | refine gY rfl rfl ?_ | refine gN rfl rfl ?_ | refine qT rfl rfl ?_ | refine qF rfl rfl ?_ | refine qT rfl (dT (by omega)) ?_ | refine lT (tl_ixm rfl rfl rfl hx) ?_ | refine tr_mcallX hP hG (c2) rfl rfl rfl rfl rfl rfl rfl rfl rfl rfl rfl rfl ?_ | refine lT (tl_ixo rfl rfl rfl (Nat.le_of_ble_eq_true rfl)) ?_ | refine lT (tl_ldEC rfl rfl rfl) ?_ | ((first | refine gS rfl (fun h => ?_) (fun h => ?_) | refine ts_cond rfl (fun h => ?_) (fun h => ?_)) <;> (try simp only [bs0, beq_iff_eq] at h) <;> try (exfalso; first | omega | exact h rfl; done)) | fail)
    all_goals refine again (m' := b.length) (Nat.lt_succ_self _) (w_canon 30 [] [3, 5, 6, 48, 49, 50, 55, 56, 57] hp rfl rfl rfl rfl) ⟨a ++ [x], b, by rw [e]; simp, rfl, by rw [hw1], rfl⟩
  ·obtain rfl : r1 = pushL [] := by simpa using hg
   repeat' (first | refine goR rfl ?_ | refine goS rfl ?_ | refine tret1 rfl ?_ | refine tretN rfl ?_ | refine gY rfl rfl ?_ | refine gN rfl rfl ?_ | refine qT rfl rfl ?_ | refine qF rfl rfl ?_ | refine qT rfl (dT (by omega)) ?_ | refine lT (tl_ixm rfl rfl rfl hl) ?_ | fail)
   refine loopS (fun m env σ => ∃ a b, l = a ++ b ∧ m = b.length ∧ env = [(3, .p 0 0), (5, .p 1 0), (6, tI (1 : Nat)), (48, .lst 1 (s.bufs.map cBuf)), (49, tI (s.bufs.map cBuf).length), (50, tI (1 : Nat)), (55, .lst 2 (l.map cEntry)), (56, tI (l.map cEntry).length), (57, tI a.length)] ∧ σ = ⟨(0, .cells (cState s) ty_api_State) :: tsM p B [r0, pushL a, r2] 1, 30⟩) l.length (w_canon 30 [] [3, 5, 6, 48, 49, 50, 55, 56, 57] hp rfl rfl rfl rfl) ⟨[], l, rfl, rfl, rfl, rfl⟩ ?_
   rintro m env σ ⟨a, b, e, rfl, rfl, rfl⟩
   have hla : l.length = a.length + b.length := by rw [e, lA]
   cases b with
   | nil =>
    rw [List.length_nil] at hla
    rw [List.append_nil] at e
    subst e
    repeat' (first | refine goR rfl ?_ | refine goS rfl ?_ | refine tret1 rfl ?_ | refine tretN rfl ?_ | refine gY rfl rfl ?_ | refine gN rfl rfl ?_ | refine qT rfl rfl ?_ | refine qF rfl rfl ?_ | refine qF rfl (dF (by omega)) ?_ | fail)
    refine again (m' := s.bufs.length - 2) (by omega) (w_canon 30 [] [3, 5, 48, 49, 50] hp rfl rfl rfl rfl) ⟨2, by omega, rfl, r0, pushL l, r2, hs1, rfl, rfl⟩
   | cons x b =>
    have hx : l[a.length]? = some x := by rw [e]; exact ix
    simp only [List.length_cons] at hla
    obtain ⟨g1, g2, g3⟩ := pushA_ok a
    have c2 := rpush_own (G := Tabs) (pushL a) g1 (by omega) x
    rw [← pushL_snoc] at c2
    have hw1 : IntKind.i64.wrap ((a.length : Int) + 1) = ((a ++ [x]).length : Int) := by rw [w64 (by omega), lA]; rfl
    obtain ⟨y1, y2⟩ := hel x (by rw [e]; simp)
    repeat' (first | refine goR rfl ?_ | refine goS rfl ?_ | refine tret1 rfl ?_ | refine tretN rfl ?_ | refine gY rfl rfl ?_ | refine gN rfl rfl ?_ | refine qT rfl rfl ?_ | refine qF rfl rfl ?_ | refine qT rfl (dT (by omega)) ?_ | refine lT (tl_ixm rfl rfl rfl hx) ?_ | refine tr_mcallX hP hG (c2) rfl rfl rfl rfl rfl rfl rfl rfl rfl rfl rfl rfl ?_ | refine lT (tl_ixo rfl rfl rfl (Nat.le_of_ble_eq_true rfl)) ?_ | refine lT (tl_ldEC rfl rfl rfl) ?_ | ((first | refine gS rfl (fun h => ?_) (fun h => ?_) | refine ts_cond rfl (fun h => ?_) (fun h => ?_)) <;> (try simp only [bs0, beq_iff_eq] at h) <;> try (exfalso; first | omega | exact h rfl; done)) | fail)
    all_goals refine again (m' := b.length) (Nat.lt_succ_self _) (w_canon 30 [] [3, 5, 6, 48, 49, 50, 55, 56, 57] hp rfl rfl rfl rfl) ⟨a ++ [x], b, by rw [e]; simp, rfl, by rw [hw1], rfl⟩
  ·obtain rfl : r2 = pushL [] := by simpa using hg
   repeat' (first | refine goR rfl ?_ | refine goS rfl ?_ | refine tret1 rfl ?_ | refine tretN rfl ?_ | refine gY rfl rfl ?_ | refine gN rfl rfl ?_ | refine qT rfl rfl ?_ | refine qF rfl rfl ?_ | refine qT rfl (dT (by omega)) ?_ | refine lT (tl_ixm rfl rfl rfl hl) ?_ | fail)
   refine loopS (fun m env σ => ∃ a b, l = a ++ b ∧ m = b.length ∧ env = [(3, .p 0 0), (5, .p 1 0), (6, tI (2 : Nat)), (48, .lst 1 (s.bufs.map cBuf)), (49, tI (s.bufs.map cBuf).length), (50, tI (2 : Nat)), (55, .lst 2 (l.map cEntry)), (56, tI (l.map cEntry).length), (57, tI a.length)] ∧ σ = ⟨(0, .cells (cState s) ty_api_State) :: tsM p B [r0, r1, pushL a] 1, 30⟩) l.length (w_canon 30 [] [3, 5, 6, 48, 49, 50, 55, 56, 57] hp rfl rfl rfl rfl) ⟨[], l, rfl, rfl, rfl, rfl⟩ ?_
   rintro m env σ ⟨a, b, e, rfl, rfl, rfl⟩
   have hla : l.length = a.length + b.length := by rw [e, lA]
   cases b with
   | nil =>
    rw [List.length_nil] at hla
    rw [List.append_nil] at e
    subst e
    repeat' (first | refine goR rfl ?_ | refine goS rfl ?_ | refine tret1 rfl ?_ | refine tretN rfl ?_ | refine gY rfl rfl ?_ | refine gN rfl rfl ?_ | refine qT rfl rfl ?_ | refine qF rfl rfl ?_ | refine qF rfl (dF (by omega)) ?_ | fail)
    refine again (m' := s.bufs.length - 3) (by omega) (w_canon 30 [] [3, 5, 48, 49, 50] hp rfl rfl rfl rfl) ⟨3, by omega, rfl, r0, r1, pushL l, hs1, rfl, rfl⟩
   | cons x b =>
    have hx : l[a.length]? = some x := by rw [e]; exact ix
    simp only [List.length_cons] at hla
    obtain ⟨g1, g2, g3⟩ := pushA_ok a
    have c2 := rpush_own (G := Tabs) (pushL a) g1 (by omega) x
    rw [← pushL_snoc] at c2
    have hw1 : IntKind.i64.wrap ((a.length : Int) + 1) = ((a ++ [x]).length : Int) := by rw [w64 (by omega), lA]; rfl
    obtain ⟨y1, y2⟩ := hel x (by rw [e]; simp)
    repeat' (first | refine goR rfl ?_ | refine goS rfl ?_ | refine tret1 rfl ?_ | refine tretN rfl ?_ | refine gY rfl rfl ?_ | refine gN rfl rfl ?_ | refine qT rfl rfl ?_ | refine qF rfl rfl ?_ | refine qT rfl (dT (by omega)) ?_ | refine lT (tl_ixm rfl rfl rfl hx) ?_ | refine tr_mcallX hP hG (c2) rfl rfl rfl rfl rfl rfl rfl rfl rfl rfl rfl rfl ?_ | refine lT (tl_ixo rfl rfl rfl (Nat.le_of_ble_eq_true rfl)) ?_ | refine lT (tl_ldEC rfl rfl rfl) ?_ | ((first | refine gS rfl (fun h => ?_) (fun h => ?_) | refine ts_cond rfl (fun h => ?_) (fun h => ?_)) <;> (try simp only [bs0, beq_iff_eq] at h) <;> try (exfalso; first | omega | exact h rfl; done)) | fail)
    all_goals refine again (m' := b.length) (Nat.lt_succ_self _) (w_canon 30 [] [3, 5, 6, 48, 49, 50, 55, 56, 57] hp rfl rfl rfl rfl) ⟨a ++ [x], b, by rw [e]; simp, rfl, by rw [hw1], rfl⟩
 ·obtain rfl : t = s.bufs.length := by omega
  rw [List.take_length] at hR
  rw [hR]
  repeat' (first | refine goR rfl ?_ | refine goS rfl ?_ | refine tret1 rfl ?_ | refine tretN rfl ?_ | refine gY rfl rfl ?_ | refine gN rfl rfl ?_ | refine qT rfl rfl ?_ | refine qF rfl rfl ?_ | refine qF rfl (dF (by omega)) ?_ | refine tr_copy rfl rfl (by first | exact e4.symm | exact e5.symm) (.inl rfl) (by first | omega | (rw [e1]; omega) | (rw [e2]; omega)) rfl ?_ | fail)
  have d1 : List.drop (s.mem.map fun n => [tI n]).length (B.mem.map fun n => [tI n]) = [] := List.drop_of_length_le (by omega)
  have d2 : List.drop (s.thr.map cThr).length (B.thr.map cThr) = [] := List.drop_of_length_le (by omega)
  have d3 : B.thr.length = s.thr.length := by omega
  rw [d1, d2, List.append_nil, List.append_nil]
  unfold tsM
  rw [← hm, d3]
  exact tretX 20 [] rfl hp rfl rfl rfl rfl ⟨rfl, rfl⟩
set_option maxHeartbeats 20000000 in
theorem tno_3 (p : Prg) (s : State) (B : State) (hn : p.threads.length = 3) (c1 : TC prog Tabs n_tso_New [.agg (cPrg p)] ⟨[], 0⟩ [] (fun v σ' => v = .p 0 0 ∧ σ' = ⟨tsM p B (atK 3 []) 0, 20⟩)) (hBt : B.thr.length = 3) (hm : s.mem.length = B.mem.length) (hsz : s.mem.length ≤ 1000000000) (ht : s.thr.length = 3) (hbl : s.bufs.length ≤ 3) (hll : ∀ l ∈ s.bufs, l.length ≤ 40000000) (hen : ¬ ∀ l ∈ s.bufs, ∀ e ∈ l, 0 ≤ e.addr ∧ e.addr < s.mem.length) :
  Pure prog Tabs n_tso_At [.agg (cPrg p), .agg (cState s)] (.v (.pointer none)) := by
 have e1 : (s.mem.map fun n => [tI n]).length = s.mem.length := lM ..
 have e2 : (s.thr.map cThr).length = s.thr.length := lM ..
 have e3 : (s.bufs.map cBuf).length = s.bufs.length := lM ..
 have e4 : (B.mem.map fun n => [tI n]).length = B.mem.length := lM ..
 have e5 : (B.thr.map cThr).length = B.thr.length := lM ..
 rw [show atK 3 [] = [Rg.new, Rg.new, Rg.new] from rfl] at c1
 refine Pure.of mixedOk (fn := f_tso_At) (by kernel_rfl) (by kernel_rfl) ok_tso_At rfl fun C hP hG hp => goF ?_; simp only [fs_tso_At, targEnv, Nat.zero_add, Nat.reduceAdd]
 repeat' (first | refine goR rfl ?_ | refine goS rfl ?_ | refine tret1 rfl ?_ | refine tretN rfl ?_ | refine gY rfl rfl ?_ | refine gN rfl rfl ?_ | refine qT rfl rfl ?_ | refine qF rfl rfl ?_ | refine tr_mcallX hP hG (c1) rfl rfl rfl rfl rfl rfl rfl rfl rfl rfl rfl rfl ?_ | ((first | refine gS rfl (fun h => ?_) (fun h => ?_) | refine ts_cond rfl (fun h => ?_) (fun h => ?_)) <;> (try simp only [bs0, beq_iff_eq] at h) <;> try (exfalso; first | omega | exact h rfl; done)) | fail)
 refine loopS (fun m env σ => ∃ t, t ≤ s.bufs.length ∧ m = s.bufs.length - t ∧ (¬ ∀ l ∈ s.bufs.drop t, ∀ e ∈ l, 0 ≤ e.addr ∧ e.addr < s.mem.length) ∧ ∃ r0 r1 r2 : Rg, atK 3 (s.bufs.take t) = [r0, r1, r2] ∧ env = [(3, .p 0 0), (5, .p 1 0), (48, .lst 1 (s.bufs.map cBuf)), (49, tI (s.bufs.map cBuf).length), (50, tI t)] ∧ σ = ⟨(0, .cells (cState s) ty_api_State) :: tsM p B [r0, r1, r2] 1, 30⟩) s.bufs.length (w_canon 30 [] [3, 5, 48, 49, 50] hp rfl rfl rfl rfl) ⟨0, by omega, by omega, by rw [List.drop_zero]; exact hen, Rg.new, Rg.new, Rg.new, rfl, rfl, rfl⟩ ?_
 rintro m env σ ⟨t, htl, rfl, hbad, r0, r1, r2, hR, rfl, rfl⟩
 by_cases hlt : t < s.bufs.length
 ·obtain ⟨l, hl⟩ : ∃ l, s.bufs[t]? = some l := ⟨_, List.getElem?_eq_getElem hlt⟩
  have hlm : l ∈ s.bufs := List.mem_of_getElem? hl
  have hg := atK_get hbl hlt
  have hs1 := atK_set hbl hl
  rw [hR] at hg hs1
  have e6 : (l.map cEntry).length = l.length := lM ..
  have hlb := hll l hlm
  rw [List.drop_eq_getElem_cons hlt, show s.bufs[t] = l from (List.getElem?_eq_some_iff.1 hl).2] at hbad
  have ht8 : t = 0 ∨ t = 1 ∨ t = 2 := by omega
  rcases ht8 with rfl | rfl | rfl
  ·obtain rfl : r0 = pushL [] := by simpa using hg
   repeat' (first | refine goR rfl ?_ | refine goS rfl ?_ | refine tret1 rfl ?_ | refine tretN rfl ?_ | refine gY rfl rfl ?_ | refine gN rfl rfl ?_ | refine qT rfl rfl ?_ | refine qF rfl rfl ?_ | refine qT rfl (dT (by omega)) ?_ | refine lT (tl_ixm rfl rfl rfl hl) ?_ | fail)
   refine loopS (fun m env σ => ∃ a b, l = a ++ b ∧ m = b.length ∧ (¬ ∀ l' ∈ b :: s.bufs.drop 1, ∀ e ∈ l', 0 ≤ e.addr ∧ e.addr < s.mem.length) ∧ env = [(3, .p 0 0), (5, .p 1 0), (6, tI (0 : Nat)), (48, .lst 1 (s.bufs.map cBuf)), (49, tI (s.bufs.map cBuf).length), (50, tI (0 : Nat)), (55, .lst 2 (l.map cEntry)), (56, tI (l.map cEntry).length), (57, tI a.length)] ∧ σ = ⟨(0, .cells (cState s) ty_api_State) :: tsM p B [pushL a, r1, r2] 1, 30⟩) l.length (w_canon 30 [] [3, 5, 6, 48, 49, 50, 55, 56, 57] hp rfl rfl rfl rfl) ⟨[], l, rfl, rfl, hbad, rfl, rfl⟩ ?_
   rintro m env σ ⟨a, b, e, rfl, hbd, rfl, rfl⟩
   have hla : l.length = a.length + b.length := by rw [e, lA]
   cases b with
   | nil =>
    rw [List.length_nil] at hla
    rw [List.append_nil] at e
    subst e
    repeat' (first | refine goR rfl ?_ | refine goS rfl ?_ | refine tret1 rfl ?_ | refine tretN rfl ?_ | refine gY rfl rfl ?_ | refine gN rfl rfl ?_ | refine qT rfl rfl ?_ | refine qF rfl rfl ?_ | refine qF rfl (dF (by omega)) ?_ | fail)
    have hb3 : ¬ ∀ l' ∈ s.bufs.drop 1, ∀ e ∈ l', 0 ≤ e.addr ∧ e.addr < s.mem.length := fun hh => hbd fun l' h1 e' he' => by
     rcases List.mem_cons.1 h1 with rfl | h1
     ·cases he'
     ·exact hh l' h1 e' he'
    refine again (m' := s.bufs.length - 1) (by omega) (w_canon 30 [] [3, 5, 48, 49, 50] hp rfl rfl rfl rfl) ⟨1, by omega, rfl, hb3, pushL l, r1, r2, hs1, rfl, rfl⟩
   | cons x b =>
    have hx : l[a.length]? = some x := by rw [e]; exact ix
    simp only [List.length_cons] at hla
    obtain ⟨g1, g2, g3⟩ := pushA_ok a
    have c2 := rpush_own (G := Tabs) (pushL a) g1 (by omega) x
    rw [← pushL_snoc] at c2
    have hw1 : IntKind.i64.wrap ((a.length : Int) + 1) = ((a ++ [x]).length : Int) := by rw [w64 (by omega), lA]; rfl
    by_cases hy : 0 ≤ x.addr ∧ x.addr < s.mem.length
    ·have hb2 : ¬ ∀ l' ∈ b :: s.bufs.drop 1, ∀ e ∈ l', 0 ≤ e.addr ∧ e.addr < s.mem.length := by
      intro hh
      refine hbd fun l' h1 e' he' => ?_
      rcases List.mem_cons.1 h1 with rfl | h1
      ·rcases List.mem_cons.1 he' with rfl | he'
       ·exact hy
       ·exact hh b (List.mem_cons_self ..) e' he'
      ·exact hh l' (List.mem_cons_of_mem _ h1) e' he'
     obtain ⟨y1, y2⟩ := hy
     repeat' (first | refine goR rfl ?_ | refine goS rfl ?_ | refine tret1 rfl ?_ | refine tretN rfl ?_ | refine gY rfl rfl ?_ | refine gN rfl rfl ?_ | refine qT rfl rfl ?_ | refine qF rfl rfl ?_ | refine qT rfl (dT (by omega)) ?_ | refine lT (tl_ixm rfl rfl rfl hx) ?_ | refine tr_mcallX hP hG (c2) rfl rfl rfl rfl rfl rfl rfl rfl rfl rfl rfl rfl ?_ | refine lT (tl_ixo rfl rfl rfl (Nat.le_of_ble_eq_true rfl)) ?_ | refine lT (tl_ldEC rfl rfl rfl) ?_ | ((first | refine gS rfl (fun h => ?_) (fun h => ?_) | refine ts_cond rfl (fun h => ?_) (fun h => ?_)) <;> (try simp only [bs0, beq_iff_eq] at h) <;> try (exfalso; first | omega | exact h rfl; done)) | fail)
     all_goals refine again (m' := b.length) (Nat.lt_succ_self _) (w_canon 30 [] [3, 5, 6, 48, 49, 50, 55, 56, 57] hp rfl rfl rfl rfl) ⟨a ++ [x], b, by rw [e]; simp, rfl, hb2, by rw [hw1], rfl⟩
    ·repeat' (first | refine goR rfl ?_ | refine goS rfl ?_ | refine tret1 rfl ?_ | refine tretN rfl ?_ | refine gY rfl rfl ?_ | refine gN rfl rfl ?_ | refine qT rfl rfl ?_ | refine qF rfl rfl ?_ | refine qT rfl (dT (by omega)) ?_ | refine lT (tl_ixm rfl rfl rfl hx) ?_ | ((first | refine gS rfl (fun h => ?_) (fun h => ?_) | refine ts_cond rfl (fun h => ?_) (fun h => ?_)) <;> (try simp only [bs0, beq_iff_eq] at h) <;> try (exfalso; first | omega | exact h rfl; done)) | fail)
     all_goals exact .fr rfl
  ·obtain rfl : r1 = pushL [] := by simpa using hg
   repeat' (first | refine goR rfl ?_ | refine goS rfl ?_ | refine tret1 rfl ?_ | refine tretN rfl ?_ | refine gY rfl rfl ?_ | refine gN rfl rfl ?_ | refine qT rfl rfl ?_ | refine qF rfl rfl ?_ | refine qT rfl (dT (by omega)) ?_ | refine lT (tl_ixm rfl rfl rfl hl) ?_ | fail)
   refine loopS (fun m env σ => ∃ a b, l = a ++ b ∧ m = b.length ∧ (¬ ∀ l' ∈ b :: s.bufs.drop 2, ∀ e ∈ l', 0 ≤ e.addr ∧ e.addr < s.mem.length) ∧ env = [(3, .p 0 0), (5, .p 1 0), (6, tI (1 : Nat)), (48, .lst 1 (s.bufs.map cBuf)), (49, tI (s.bufs.map cBuf).length), (50, tI (1 : Nat)), (55, .lst 2 (l.map cEntry)), (56, tI (l.map cEntry).length), (57, tI a.length)] ∧ σ = ⟨(0, .cells (cState s) ty_api_State) :: tsM p B [r0, pushL a, r2] 1, 30⟩) l.length (w_canon 30 [] [3, 5, 6, 48, 49, 50, 55, 56, 57] hp rfl rfl rfl rfl) ⟨[], l, rfl, rfl, hbad, rfl, rfl⟩ ?_
   rintro m env σ ⟨a, b, e, rfl, hbd, rfl, rfl⟩
   have hla : l.length = a.length + b.length := by rw [e, lA]
   cases b with
   | nil =>
    rw [List.length_nil] at hla
    rw [List.append_nil] at e
    subst e
    repeat' (first | refine goR rfl ?_ | refine goS rfl ?_ | refine tret1 rfl ?_ | refine tretN rfl ?_ | refine gY rfl rfl ?_ | refine gN rfl rfl ?_ | refine qT rfl rfl ?_ | refine qF rfl rfl ?_ | refine qF rfl (dF (by omega)) ?_ | fail)
    have hb3 : ¬ ∀ l' ∈ s.bufs.drop 2, ∀ e ∈ l', 0 ≤ e.addr ∧ e.addr < s.mem.length := fun hh => hbd fun l' h1 e' he' => by
     rcases List.mem_cons.1 h1 with rfl | h1
     ·cases he'
     ·exact hh l' h1 e' he'
    refine again (m' := s.bufs.length - 2) (by omega) (w_canon 30 [] [3, 5, 48, 49, 50] hp rfl rfl rfl rfl) ⟨2, by omega, rfl, hb3, r0, pushL l, r2, hs1, rfl, rfl⟩
   | cons x b =>
    have hx : l[a.length]? = some x := by rw [e]; exact ix
    simp only [List.length_cons] at hla
    obtain ⟨g1, g2, g3⟩ := pushA_ok a
    have c2 := rpush_own (G := Tabs) (pushL a) g1 (by omega) x
    rw [← pushL_snoc] at c2
    have hw1 : IntKind.i64.wrap ((a.length : Int) + 1) = ((a ++ [x]).length : Int) := by rw [w64 (by omega), lA]; rfl
    by_cases hy : 0 ≤ x.addr ∧ x.addr < s.mem.length
    ·have hb2 : ¬ ∀ l' ∈ b :: s.bufs.drop 2, ∀ e ∈ l', 0 ≤ e.addr ∧ e.addr < s.mem.length := by
      intro hh
      refine hbd fun l' h1 e' he' => ?_
      rcases List.mem_cons.1 h1 with rfl | h1
      ·rcases List.mem_cons.1 he' with rfl | he'
       ·exact hy
       ·exact hh b (List.mem_cons_self ..) e' he'
      ·exact hh l' (List.mem_cons_of_mem _ h1) e' he'
     obtain ⟨y1, y2⟩ := hy
     repeat' (first | refine goR rfl ?_ | refine goS rfl ?_ | refine tret1 rfl ?_ | refine tretN rfl ?_ | refine gY rfl rfl ?_ | refine gN rfl rfl ?_ | refine qT rfl rfl ?_ | refine qF rfl rfl ?_ | refine qT rfl (dT (by omega)) ?_ | refine lT (tl_ixm rfl rfl rfl hx) ?_ | refine tr_mcallX hP hG (c2) rfl rfl rfl rfl rfl rfl rfl rfl rfl rfl rfl rfl ?_ | refine lT (tl_ixo rfl rfl rfl (Nat.le_of_ble_eq_true rfl)) ?_ | refine lT (tl_ldEC rfl rfl rfl) ?_ | ((first | refine gS rfl (fun h => ?_) (fun h => ?_) | refine ts_cond rfl (fun h => ?_) (fun h => ?_)) <;> (try simp only [bs0, beq_iff_eq] at h) <;> try (exfalso; first | omega | exact h rfl; done)) | fail)
     all_goals refine again (m' := b.length) (Nat.lt_succ_self _) (w_canon 30 [] [3, 5, 6, 48, 49, 50, 55, 56, 57] hp rfl rfl rfl rfl) ⟨a ++ [x], b, by rw [e]; simp, rfl, hb2, by rw [hw1], rfl⟩
    ·repeat' (first | refine goR rfl ?_ | refine goS rfl ?_ | refine tret1 rfl ?_ | refine tretN rfl ?_ | refine gY rfl rfl ?_ | refine gN rfl rfl ?_ | refine qT rfl rfl ?_ | refine qF rfl rfl ?_ | refine qT rfl (dT (by omega)) ?_ | refine lT (tl_ixm rfl rfl rfl hx) ?_ | ((first | refine gS rfl (fun h => ?_) (fun h => ?_) | refine ts_cond rfl (fun h => ?_) (fun h => ?_)) <;> (try simp only [bs0, beq_iff_eq] at h) <;> try (exfalso; first | omega | exact h rfl; done)) | fail)
     all_goals exact .fr rfl
  ·obtain rfl : r2 = pushL [] := by simpa using hg
   repeat' (first | refine goR rfl ?_ | refine goS rfl ?_ | refine tret1 rfl ?_ | refine tretN rfl ?_ | refine gY rfl rfl ?_ | refine gN rfl rfl ?_ | refine qT rfl rfl ?_ | refine qF rfl rfl ?_ | refine qT rfl (dT (by omega)) ?_ | refine lT (tl_ixm rfl rfl rfl hl) ?_ | fail)
   refine loopS (fun m env σ => ∃ a b, l = a ++ b ∧ m = b.length ∧ (¬ ∀ l' ∈ b :: s.bufs.drop 3, ∀ e ∈ l', 0 ≤ e.addr ∧ e.addr < s.mem.length) ∧ env = [(3, .p 0 0), (5, .p 1 0), (6, tI (2 : Nat)), (48, .lst 1 (s.bufs.map cBuf)), (49, tI (s.bufs.map cBuf).length), (50, tI (2 : Nat)), (55, .lst 2 (l.map cEntry)), (56, tI (l.map cEntry).length), (57, tI a.length)] ∧ σ = ⟨(0, .cells (cState s) ty_api_State) :: tsM p B [r0, r1, pushL a] 1, 30⟩) l.length (w_canon 30 [] [3, 5, 6, 48, 49, 50, 55, 56, 57] hp rfl rfl rfl rfl) ⟨[], l, rfl, rfl, hbad, rfl, rfl⟩ ?_
   rintro m env σ ⟨a, b, e, rfl, hbd, rfl, rfl⟩
   have hla : l.length = a.length + b.length := by rw [e, lA]
   cases b with
   | nil =>
    rw [List.length_nil] at hla
    rw [List.append_nil] at e
    subst e
    repeat' (first | refine goR rfl ?_ | refine goS rfl ?_ | refine tret1 rfl ?_ | refine tretN rfl ?_ | refine gY rfl rfl ?_ | refine gN rfl rfl ?_ | refine qT rfl rfl ?_ | refine qF rfl rfl ?_ | refine qF rfl (dF (by omega)) ?_ | fail)
    have hb3 : ¬ ∀ l' ∈ s.bufs.drop 3, ∀ e ∈ l', 0 ≤ e.addr ∧ e.addr < s.mem.length := fun hh => hbd fun l' h1 e' he' => by
     rcases List.mem_cons.1 h1 with rfl | h1
     ·cases he'
     ·exact hh l' h1 e' he'
    refine again (m' := s.bufs.length - 3) (by omega) (w_canon 30 [] [3, 5, 48, 49, 50] hp rfl rfl rfl rfl) ⟨3, by omega, rfl, hb3, r0, r1, pushL l, hs1, rfl, rfl⟩
   | cons x b =>
    have hx : l[a.length]? = some x := by rw [e]; exact ix
    simp only [List.length_cons] at hla
    obtain ⟨g1, g2, g3⟩ := pushA_ok a
    have c2 := rpush_own (G := Tabs) (pushL a) g1 (by omega) x
    rw [← pushL_snoc] at c2
    have hw1 : IntKind.i64.wrap ((a.length : Int) + 1) = ((a ++ [x]).length : Int) := by rw [w64 (by omega), lA]; rfl
    by_cases hy : 0 ≤ x.addr ∧ x.addr < s.mem.length
    ·have hb2 : ¬ ∀ l' ∈ b :: s.bufs.drop 3, ∀ e ∈ l', 0 ≤ e.addr ∧ e.addr < s.mem.length := by
      intro hh
      refine hbd fun l' h1 e' he' => ?_
      rcases List.mem_cons.1 h1 with rfl | h1
      ·rcases List.mem_cons.1 he' with rfl | he'
       ·exact hy
       ·exact hh b (List.mem_cons_self ..) e' he'
      ·exact hh l' (List.mem_cons_of_mem _ h1) e' he'
     obtain ⟨y1, y2⟩ := hy
     repeat' (first | refine goR rfl ?_ | refine goS rfl ?_ | refine tret1 rfl ?_ | refine tretN rfl ?_ | refine gY rfl rfl ?_ | refine gN rfl rfl ?_ | refine qT rfl rfl ?_ | refine qF rfl rfl ?_ | refine qT rfl (dT (by omega)) ?_ | refine lT (tl_ixm rfl rfl rfl hx) ?_ | refine tr_mcallX hP hG (c2) rfl rfl rfl rfl rfl rfl rfl rfl rfl rfl rfl rfl ?_ | refine lT (tl_ixo rfl rfl rfl (Nat.le_of_ble_eq_true rfl)) ?_ | refine lT (tl_ldEC rfl rfl rfl) ?_ | ((first | refine gS rfl (fun h => ?_) (fun h => ?_) | refine ts_cond rfl (fun h => ?_) (fun h => ?_)) <;> (try simp only [bs0, beq_iff_eq] at h) <;> try (exfalso; first | omega | exact h rfl; done)) | fail)
     all_goals refine again (m' := b.length) (Nat.lt_succ_self _) (w_canon 30 [] [3, 5, 6, 48, 49, 50, 55, 56, 57] hp rfl rfl rfl rfl) ⟨a ++ [x], b, by rw [e]; simp, rfl, hb2, by rw [hw1], rfl⟩
    ·repeat' (first | refine goR rfl ?_ | refine goS rfl ?_ | refine tret1 rfl ?_ | refine tretN rfl ?_ | refine gY rfl rfl ?_ | refine gN rfl rfl ?_ | refine qT rfl rfl ?_ | refine qF rfl rfl ?_ | refine qT rfl (dT (by omega)) ?_ | refine lT (tl_ixm rfl rfl rfl hx) ?_ | ((first | refine gS rfl (fun h => ?_) (fun h => ?_) | refine ts_cond rfl (fun h => ?_) (fun h => ?_)) <;> (try simp only [bs0, beq_iff_eq] at h) <;> try (exfalso; first | omega | exact h rfl; done)) | fail)
     all_goals exact .fr rfl
 ·obtain rfl : t = s.bufs.length := by omega
  exact absurd (fun l hl => by rw [List.drop_length] at hl; cases hl) hbad
end
end Go.Proofs.YtphcaohldmdglaaGreatDoor
namespace Go.Proofs.YtphcaohldmdglaaGreatDoor
set_option maxRecDepth 20000
open Go Go.Proofs.YtphcaohldmdglaaGreatDoor.V Go.Proofs
theorem atK_nil (n : Nat) : atK n [] = List.replicate n Rg.new := by unfold atK; rw [List.map_nil, List.nil_append]; rfl
theorem atK_list {n : Nat} {bs : List (List Entry)} (h : bs.length = n) : bs = (atK n bs).map Rg.list := by
 have e : (bs.map pushL).map Rg.list = bs := by
  rw [List.map_map]
  exact (List.map_congr_left fun l _ => (pushA_ok l).2.1).trans (List.map_id _)
 unfold atK
 rw [h, Nat.sub_self, List.replicate_zero, List.append_nil, e]
theorem atK_ok {p : Prg} {m : Nat} {s : State} {R : List Rg} (h : mQ p m (s, R)) : mQ p m (s, atK p.threads.length s.bufs) := by
 have hbl : s.bufs.length = p.threads.length := h.blen.trans h.thr
 have hf := h.few
 obtain ⟨h1, h2, h3, h4⟩ := h
 obtain ⟨a1, a2, a3, a4, a5⟩ := h2
 simp only at h1 h3 h4 a1 a2 a5 hf
 have hm : ∀ r ∈ atK p.threads.length s.bufs, ∃ l ∈ s.bufs, r = pushL l := by
  intro r hr
  unfold atK at hr
  rw [hbl, Nat.sub_self, List.replicate_zero, List.append_nil] at hr
  obtain ⟨l, hl, rfl⟩ := List.mem_map.1 hr
  exact ⟨l, hl, rfl⟩
 refine ⟨h1, ⟨atK_list hbl, ?_, ?_, ?_, ?_⟩, h3, h4⟩
 ·show (atK _ _).length = s.thr.length
  rw [atK_len (by omega)]; exact h3.symm
 ·intro r hr
  obtain ⟨l, hl, rfl⟩ := hm r hr
  exact (pushA_ok l).1
 ·intro r hr
  obtain ⟨l, hl, rfl⟩ := hm r hr
  obtain ⟨g1, g2, g3⟩ := pushA_ok l
  have := (hf l hl).1
  have hn := (pushL l).list_len
  rw [g2] at hn
  omega
 ·intro r hr e he
  obtain ⟨l, hl, rfl⟩ := hm r hr
  rw [(pushA_ok l).2.1] at he
  rw [a1] at hl
  obtain ⟨r', hr', rfl⟩ := List.mem_map.1 hl
  exact a5 r' hr' e he
theorem runT_fst (p : Prg) : ∀ (l : List (Int × Bool)) (s : State) (R R' : List Rg), (runT p (s, R) l).1 = (runT p (s, R') l).1
 | [], _, _, _ => rfl
 | x :: l, s, R, R' => runT_fst p l _ _ _
section
attribute [local irreducible] TwS TwR thenT inBlockT retT Rg.push Rg.pop nextW localW loadedW swapW tsoW doR
theorem tat_own (p : Prg) (ho : okP p) (hc : checkC p = 0) (h3 : p.threads.length ≤ 3) (s : State) (hm : s.mem.length = (startF p.syms).length) (ht : s.thr.length = p.threads.length) (hbl : s.bufs.length ≤ p.threads.length) (hll : ∀ l ∈ s.bufs, l.length ≤ 40000000) (hen : ∀ l ∈ s.bufs, ∀ e ∈ l, 0 ≤ e.addr ∧ e.addr < s.mem.length) :
  TC prog Tabs n_tso_At [.agg (cPrg p), .agg (cState s)] ⟨[], 0⟩ [] (fun v σ' => v = .p 0 0 ∧ σ' = ⟨tsM p s (atK p.threads.length s.bufs) 0, 20⟩) := by
 have c1 := tnew_own p ho hc (start_okS hc) rfl h3
 rw [show (beginM p).2 = atK p.threads.length [] from (atK_nil _).symm] at c1
 have hBm : (startT p).mem.length = (startF p.syms).length := rfl
 have hBt : (startT p).thr.length = p.threads.length := List.length_replicate ..
 have hsz : s.mem.length ≤ 1000000000 := by have := (start_okS hc).1; exact hm ▸ this
 have h8 : p.threads.length = 0 ∨ p.threads.length = 1 ∨ p.threads.length = 2 ∨ p.threads.length = 3 := by omega
 rcases h8 with h | h | h | h
 all_goals rw [h] at c1 hBt ht hbl ⊢
 ·exact tat_0 p s _ h c1 hBt (hm.trans hBm.symm) hsz ht hbl hll hen
 ·exact tat_1 p s _ h c1 hBt (hm.trans hBm.symm) hsz ht hbl hll hen
 ·exact tat_2 p s _ h c1 hBt (hm.trans hBm.symm) hsz ht hbl hll hen
 ·exact tat_3 p s _ h c1 hBt (hm.trans hBm.symm) hsz ht hbl hll hen
theorem tat_len (p : Prg) (s B : State) (R : List Rg) (hR : R.length ≤ 3) (c1 : TC prog Tabs n_tso_New [.agg (cPrg p)] ⟨[], 0⟩ [] (fun v σ' => v = .p 0 0 ∧ σ' = ⟨tsM p B R 0, 20⟩)) (hB : B.thr.length = R.length) (hx : ¬ (s.mem.length = B.mem.length ∧ s.thr.length = R.length ∧ s.bufs.length ≤ R.length)) :
  Pure prog Tabs n_tso_At [.agg (cPrg p), .agg (cState s)] (.v (.pointer none)) := by
 have e1 : (s.mem.map fun n => [tI n]).length = s.mem.length := lM ..
 have e2 : (s.thr.map cThr).length = s.thr.length := lM ..
 have e3 : (s.bufs.map cBuf).length = s.bufs.length := lM ..
 rcases rows3 hR with rfl | ⟨r0, rfl⟩ | ⟨r0, r1, rfl⟩ | ⟨r0, r1, r2, rfl⟩
 all_goals
  simp only [List.length_cons, List.length_nil] at hB hx
  refine Pure.of mixedOk (fn := f_tso_At) (by kernel_rfl) (by kernel_rfl) ok_tso_At rfl fun C hP hG hp => goF ?_; simp only [fs_tso_At, targEnv, Nat.zero_add, Nat.reduceAdd]
  repeat' (first | refine goR rfl ?_ | refine goS rfl ?_ | refine tret1 rfl ?_ | refine tretN rfl ?_ | refine gY rfl rfl ?_ | refine gN rfl rfl ?_ | refine qT rfl rfl ?_ | refine qF rfl rfl ?_ | refine tr_mcallX hP hG (c1) rfl rfl rfl rfl rfl rfl rfl rfl rfl rfl rfl rfl ?_ | ((first | refine gS rfl (fun h => ?_) (fun h => ?_) | refine ts_cond rfl (fun h => ?_) (fun h => ?_)) <;> (try simp only [bs0, beq_iff_eq] at h) <;> try (exfalso; first | omega | exact h rfl; done)) | fail)
  all_goals exact .fr rfl
theorem tat_no (p : Prg) (ho : okP p) (hc : checkC p = 0) (h3 : p.threads.length ≤ 3) (s : State) (hll : ∀ l ∈ s.bufs, l.length ≤ 40000000) (hx : ¬ (s.mem.length = (startF p.syms).length ∧ s.thr.length = p.threads.length ∧ s.bufs.length ≤ p.threads.length ∧ ∀ l ∈ s.bufs, ∀ e ∈ l, 0 ≤ e.addr ∧ e.addr < (startF p.syms).length)) :
  Pure prog Tabs n_tso_At [.agg (cPrg p), .agg (cState s)] (.v (.pointer none)) := by
 have c1 := tnew_own p ho hc (start_okS hc) rfl h3
 have hBm : (startT p).mem.length = (startF p.syms).length := rfl
 have hBt : (startT p).thr.length = p.threads.length := List.length_replicate ..
 by_cases hy : s.mem.length = (startF p.syms).length ∧ s.thr.length = p.threads.length ∧ s.bufs.length ≤ p.threads.length
 ·obtain ⟨hm, ht, hbl⟩ := hy
  rw [show (beginM p).2 = atK p.threads.length [] from (atK_nil _).symm] at c1
  have hsz : s.mem.length ≤ 1000000000 := by have := (start_okS hc).1; exact hm ▸ this
  have hen : ¬ ∀ l ∈ s.bufs, ∀ e ∈ l, 0 ≤ e.addr ∧ e.addr < s.mem.length := fun h => hx ⟨hm, ht, hbl, hm ▸ h⟩
  have h8 : p.threads.length = 0 ∨ p.threads.length = 1 ∨ p.threads.length = 2 ∨ p.threads.length = 3 := by omega
  rcases h8 with h | h | h | h
  all_goals rw [h] at c1 hBt ht hbl
  ·exact tno_0 p s _ h c1 hBt (hm.trans hBm.symm) hsz ht hbl hll hen
  ·exact tno_1 p s _ h c1 hBt (hm.trans hBm.symm) hsz ht hbl hll hen
  ·exact tno_2 p s _ h c1 hBt (hm.trans hBm.symm) hsz ht hbl hll hen
  ·exact tno_3 p s _ h c1 hBt (hm.trans hBm.symm) hsz ht hbl hll hen
 ·have hl : (beginM p).2.length = p.threads.length := List.length_replicate ..
  exact tat_len p s _ _ (by omega) c1 (hBt.trans hl.symm) (by rw [hl]; exact hy)
end
end Go.Proofs.YtphcaohldmdglaaGreatDoor
