/-
  Walks of functions of the program, and what the laws need of them.
-/
import Derived.Test.YtnphhelbianjpaaGreatDoorRPE
import Derived.Test.YtnphhelbianjpaaGreatDoorRPG
set_option linter.all false
set_option linter.unusedSimpArgs false
set_option linter.unusedVariables false
set_option linter.unnecessarySimpa false
namespace Go.Proofs.YtnphhelbianjpaaGreatDoor
set_option maxRecDepth 20000
open Go Go.Proofs.YtnphhelbianjpaaGreatDoor.V Go.Proofs

def rdM (s : State) (a : Int) : Int := s.mem.getD a.toNat 0
def wrM (s : State) (a v : Int) : List Int := s.mem.set a.toNat v
def stepS (p : Prg) (s : State) (t : Nat) (x : Thr) : State × Bool :=
 if (nextW p t x).kind = 0 then (s, false)
 else if (nextW p t x).kind = 2 then ({ s with thr := s.thr.set t (loadedW p t x (rdM s (nextW p t x).addr)) }, true)
 else if (nextW p t x).kind = 3 then ({ s with thr := s.thr.set t (localW p t x), mem := wrM s (nextW p t x).addr (nextW p t x).val }, true)
 else if (nextW p t x).kind = 4 then ({ s with thr := s.thr.set t (swapW p t x (rdM s (nextW p t x).addr)).1, mem := if (swapW p t x (rdM s (nextW p t x).addr)).2.2 = true then wrM s (nextW p t x).addr (swapW p t x (rdM s (nextW p t x).addr)).2.1 else s.mem }, true)
 else ({ s with thr := s.thr.set t (localW p t x) }, true)
def scW (p : Prg) (s : State) (t : Int) : State × Bool := if 0 ≤ t then (match s.thr[t.toNat]? with
  | some x => stepS p s t.toNat x
  | none => (s, false)) else (s, false)

theorem startF_sum : ∀ (l : List Sym), (∀ s ∈ l, 1 ≤ s.size ∧ s.size ≤ 64 ∧ (s.init.length : Int) ≤ s.size) → ((startF l).length : Int) = (l.map fun s => s.size).sum
 | [], _ => rfl
 | x :: l, h => by
  have h1 := startF_sum l fun s hs => h s (List.mem_cons_of_mem _ hs)
  have h2 := cellsS_len x (h x (List.mem_cons_self ..)).2.2
  rw [startF_def] at h1 ⊢
  rw [List.flatMap_cons, lA, List.map_cons, List.sum_cons]
  omega
theorem addrW_lt {p : Prg} (hc : checkC p = 0) {o : Opd} {x : Thr} {a : Int} (h : addrW p.syms o x = some a) : 0 ≤ a ∧ a < (startF p.syms).length := by
 obtain ⟨c1, c2, c3, c4⟩ := check_syms hc
 unfold addrW at h
 cases hg : p.syms[o.sym.toNat]? with
 | none => rw [hg] at h; cases h
 | some s =>
  rw [hg] at h
  simp only at h
  split at h
  ·rename_i hr
   cases h
   have h1 := base_le c3 o.sym.toNat
   have h2 := baseN_succ _ _ _ hg
   have h3 := sizes_le (p.syms.drop (o.sym.toNat + 1)) fun s hs => c3 s (List.mem_of_mem_drop hs)
   have h4 : (p.syms.map fun s => s.size).sum = baseN p.syms (o.sym.toNat + 1) + ((p.syms.drop (o.sym.toNat + 1)).map fun s => s.size).sum := by
    unfold baseN
    rw [← List.sum_append, ← List.map_append, List.take_append_drop]
   rw [startF_sum _ c3]
   omega
  ·cases h
theorem next_addr {p : Prg} (hc : checkC p = 0) {t : Int} {x : Thr} (h : (nextW p t x).kind = 2 ∨ (nextW p t x).kind = 3 ∨ (nextW p t x).kind = 4) : 0 ≤ (nextW p t x).addr ∧ (nextW p t x).addr < (startF p.syms).length := by
 unfold nextW at h ⊢
 cases hcur : curI p t x with
 | none => rw [hcur] at h; simp only at h; omega
 | some i =>
  rw [hcur] at h
  simp only at h ⊢
  split at h
  ·rename_i hp
   rw [if_pos hp]
   by_cases hm : readsB i = true ∨ writesB i = true
   ·cases ha : addrW p.syms (opdOf i) x with
    | none => rw [step_none hm ha] at h; simp only at h; omega
    | some a =>
     have := addrW_lt hc ha
     rw [step_some hm ha]
     repeat' split
     all_goals exact this
   ·rw [step_loc hm] at h
    split at h <;> (simp only at h; omega)
  ·simp only at h; omega

theorem in0 : inR 0 := by unfold inR; decide
theorem doW_in {op a b : Int} (ha : inR a) : inR (doW op a b).1 := by
 unfold doW
 repeat' split
 all_goals first | exact ha | exact in0 | exact i64_in _
theorem setR_in {x : Thr} (h : thrR x) {v : Int} (hv : inR v) (j : Int) : thrR (setR x j v) := by
 obtain ⟨h0, h1, h2, h3, h4, h5, h6, h7⟩ := h
 have key : ∀ (i a : Int), inR a → inR (s1 i j v a) := fun i a ha => by
  unfold s1
  split
  ·exact hv
  ·exact ha
 exact ⟨key _ _ h0, key _ _ h1, key _ _ h2, key _ _ h3, key _ _ h4, key _ _ h5, key _ _ h6, key _ _ h7⟩
theorem numW_in {x : Thr} (h : thrR x) {o : Opd} (ho : inR o.n) : inR (numW o x) := by
 unfold numW
 split
 ·exact getR_in h _
 ·exact ho
theorem thrR_of {x y : Thr} (h : thrR x) (e : y.r0 = x.r0 ∧ y.r1 = x.r1 ∧ y.r2 = x.r2 ∧ y.r3 = x.r3 ∧ y.r4 = x.r4 ∧ y.r5 = x.r5 ∧ y.r6 = x.r6 ∧ y.r7 = x.r7) : thrR y := by
 obtain ⟨h0, h1, h2, h3, h4, h5, h6, h7⟩ := h
 obtain ⟨e0, e1, e2, e3, e4, e5, e6, e7⟩ := e
 exact ⟨e0 ▸ h0, e1 ▸ h1, e2 ▸ h2, e3 ▸ h3, e4 ▸ h4, e5 ▸ h5, e6 ▸ h6, e7 ▸ h7⟩
theorem same8 {x : Thr} : x.r0 = x.r0 ∧ x.r1 = x.r1 ∧ x.r2 = x.r2 ∧ x.r3 = x.r3 ∧ x.r4 = x.r4 ∧ x.r5 = x.r5 ∧ x.r6 = x.r6 ∧ x.r7 = x.r7 := ⟨rfl, rfl, rfl, rfl, rfl, rfl, rfl, rfl⟩
def numsOk (p : Prg) : Prop := ∀ l ∈ p.threads, ∀ i ∈ l, inR i.b.n
theorem cur_num {p : Prg} (hn : numsOk p) {t : Int} {x : Thr} {i : Ins} (h : curI p t x = some i) : inR i.b.n := by
 unfold curI at h
 split at h
 ·cases hg : getT p t with
  | none => rw [hg] at h; cases h
  | some l =>
   rw [hg] at h
   have hl : l[x.pc.toNat]? = some i := h
   unfold getT at hg
   split at hg
   ·exact hn l (List.mem_of_getElem? hg) i (List.mem_of_getElem? hl)
   ·cases hg
 ·cases h
structure thrQ (x : Thr) : Prop where
 r : thrR x
 l : inR x.la
theorem local_in {p : Prg} (hn : numsOk p) {t : Int} {x : Thr} (hq : thrQ x) : thrQ (localW p t x) := by
 obtain ⟨h, hl⟩ := hq
 unfold localW
 cases hc : curI p t x with
 | none => exact ⟨h, hl⟩
 | some i =>
  have hi := numW_in h (cur_num hn hc)
  simp only
  split
  ·unfold localI
   repeat' split
   all_goals first
    | exact ⟨thrR_of h same8, hl⟩
    | exact ⟨thrR_of h same8, in0⟩
    | skip
   unfold doLocal
   repeat' split
   ·exact ⟨thrR_of h same8, hl⟩
   ·exact ⟨thrR_of h same8, hl⟩
   ·exact ⟨thrR_of (setR_in h hi _) same8, hl⟩
   ·exact ⟨thrR_of (setR_in h (doW_in (getR_in h _)) _) same8, hl⟩
   ·exact ⟨thrR_of h same8, hl⟩
  ·exact ⟨h, hl⟩
theorem loaded_in {p : Prg} {t : Int} {x : Thr} (hq : thrQ x) {v : Int} (hv : inR v) : thrQ (loadedW p t x v) := by
 obtain ⟨h, hl⟩ := hq
 unfold loadedW
 cases hc : curI p t x with
 | none => exact ⟨h, hl⟩
 | some i =>
  simp only
  split
  ·unfold loadedI
   repeat' split
   ·exact ⟨thrR_of h same8, hv⟩
   ·exact ⟨thrR_of (setR_in h hv _) same8, hl⟩
   ·exact ⟨thrR_of h same8, hl⟩
   ·exact ⟨thrR_of h same8, hl⟩
   ·exact ⟨thrR_of (setR_in h (doW_in (getR_in h _)) _) same8, hl⟩
  ·exact ⟨h, hl⟩
theorem swap_in {p : Prg} (hn : numsOk p) {t : Int} {x : Thr} (hq : thrQ x) {v : Int} (hv : inR v) : thrQ (swapW p t x v).1 ∧ inR (swapW p t x v).2.1 := by
 obtain ⟨h, hl⟩ := hq
 unfold swapW
 cases hc : curI p t x with
 | none => exact ⟨⟨h, hl⟩, in0⟩
 | some i =>
  have hi := numW_in h (cur_num hn hc)
  simp only
  split
  ·unfold swapI
   repeat' split
   ·exact ⟨⟨setR_in (x := incP x) (thrR_of h same8) hv _, hl⟩, hi⟩
   ·exact ⟨⟨thrR_of h same8, hl⟩, hi⟩
   ·refine ⟨⟨?_, hl⟩, in0⟩
    obtain ⟨h0, h1, h2, h3, h4, h5, h6, h7⟩ := h
    exact ⟨hv, h1, h2, h3, h4, h5, h6, h7⟩
   ·exact ⟨⟨thrR_of h same8, hl⟩, doW_in hv⟩
  ·exact ⟨⟨h, hl⟩, in0⟩
theorem next_in {p : Prg} (hn : numsOk p) {t : Int} {x : Thr} (hq : thrQ x) : inR (nextW p t x).val := by
 obtain ⟨h, hl⟩ := hq
 unfold nextW
 cases hc : curI p t x with
 | none => exact in0
 | some i =>
  have hi := numW_in h (cur_num hn hc)
  simp only
  split
  ·unfold stepW
   repeat' split
   all_goals first | exact in0 | exact hi | exact doW_in hl
  ·exact in0
structure stQ (p : Prg) (s : State) : Prop where
 len : s.mem.length = (startF p.syms).length
 thr : ∀ x ∈ s.thr, thrQ x
 mem : ∀ v ∈ s.mem, inR v
theorem rd_in {s : State} (h : ∀ v ∈ s.mem, inR v) (a : Int) : inR (rdM s a) := by
 unfold rdM
 rw [List.getD_eq_getElem?_getD]
 cases hg : s.mem[a.toNat]? with
 | none => exact in0
 | some v => exact h v (List.mem_of_getElem? hg)
theorem set_in {α : Type} {Q : α → Prop} {l : List α} (h : ∀ x ∈ l, Q x) {a : α} (ha : Q a) (n : Nat) : ∀ x ∈ l.set n a, Q x := fun x hx => by
 rcases List.mem_or_eq_of_mem_set hx with h1 | rfl
 ·exact h x h1
 ·exact ha
theorem stepS_ok {p : Prg} (hn : numsOk p) {s : State} (h : stQ p s) {t : Nat} {x : Thr} (hx : s.thr[t]? = some x) : stQ p (stepS p s t x).1 ∧ (stepS p s t x).1.thr.length = s.thr.length ∧ (stepS p s t x).1.bufs = s.bufs ∧ (stepS p s t x).1.lock = s.lock := by
 have hq := h.thr x (List.mem_of_getElem? hx)
 unfold stepS
 split
 ·exact ⟨h, rfl, rfl, rfl⟩
 split
 ·exact ⟨⟨h.len, set_in h.thr (loaded_in hq (rd_in h.mem _)) _, h.mem⟩, List.length_set .., rfl, rfl⟩
 split
 ·exact ⟨⟨(List.length_set ..).trans h.len, set_in h.thr (local_in hn hq) _, set_in h.mem (next_in hn hq) _⟩, List.length_set .., rfl, rfl⟩
 split
 ·have hw := swap_in hn hq (t := t) (rd_in h.mem (nextW p t x).addr)
  have key : ∀ (c : Bool) (l : List Int), l.length = s.mem.length → (∀ v ∈ l, inR v) → (if c = true then l else s.mem).length = (startF p.syms).length ∧ ∀ v ∈ (if c = true then l else s.mem), inR v := fun c l h1 h2 => by
   cases c
   ·exact ⟨h.len, h.mem⟩
   ·exact ⟨h1.trans h.len, h2⟩
  obtain ⟨k1, k2⟩ := key (swapW p t x (rdM s (nextW p t x).addr)).2.2 (wrM s (nextW p t x).addr (swapW p t x (rdM s (nextW p t x).addr)).2.1) (List.length_set ..) (set_in h.mem hw.2 _)
  exact ⟨⟨k1, set_in h.thr hw.1 _, k2⟩, List.length_set .., rfl, rfl⟩
 ·exact ⟨⟨h.len, set_in h.thr (local_in hn hq) _, h.mem⟩, List.length_set .., rfl, rfl⟩
theorem scW_ok {p : Prg} (hn : numsOk p) {s : State} (h : stQ p s) (t : Int) : stQ p (scW p s t).1 ∧ (scW p s t).1.thr.length = s.thr.length ∧ (scW p s t).1.bufs = s.bufs ∧ (scW p s t).1.lock = s.lock := by
 unfold scW
 split
 ·cases hx : s.thr[t.toNat]? with
  | none => exact ⟨h, rfl, rfl, rfl⟩
  | some x => exact stepS_ok hn h hx
 ·exact ⟨h, rfl, rfl, rfl⟩

theorem pln_in {k n : Int} (h : inR n) : inR (plnO k n).n := by
 unfold plnO
 split
 ·exact in0
 ·exact h
theorem ite_in {c : Prop} [Decidable c] {a b : Int} (ha : inR a) (hb : inR b) : inR (if c then a else b) := by
 by_cases h : c
 ·rw [if_pos h]; exact ha
 ·rw [if_neg h]; exact hb
theorem memO_in (k : Int) : inR (memO k).n := by
 have h1 : 0 ≤ k % 60 % 5 % 2 := Int.emod_nonneg _ (by decide)
 have h2 : k % 60 % 5 % 2 < 2 := Int.emod_lt_of_pos _ (by decide)
 unfold memO
 split
 ·exact in0
 ·show inR (if k % 60 / 5 % 3 = 1 then k % 60 % 5 % 2 else 0)
  split
  ·exact ⟨by omega, by omega⟩
  ·exact in0
theorem insO_in {a : Act} (h : inR a.n) (m : Nat) : inR (insO a m).b.n := by
 unfold insO
 simp only [apply_ite Ins.b, apply_ite Opd.n, mkI]
 repeat' (first | exact pln_in h | exact memO_in _ | exact in0 | refine ite_in ?_ ?_)
theorem prog_nums {l : List (List Act)} (h : ∀ r ∈ l, ∀ a ∈ r, inR a.n) (th many : Nat) : numsOk (progO l th many) := by
 intro r hr i hi
 obtain ⟨q, hq, rfl⟩ := List.mem_map.1 hr
 have hq := h q (List.mem_of_mem_take hq)
 obtain ⟨k, hk⟩ := List.mem_iff_getElem?.1 hi
 rw [thO, labS_get] at hk
 cases hb : (baseO (min q.length many) q)[k]? with
 | none => rw [hb] at hk; cases hk
 | some x =>
  rw [hb] at hk
  cases hk
  have e : ∀ b k, (labI b k x).b = x.b := fun b k => by unfold labI; split <;> rfl
  rw [e]
  rcases List.mem_append.1 (List.mem_of_getElem? hb) with hm | hm
  ·obtain ⟨a, ha, rfl⟩ := List.mem_map.1 hm
   exact insO_in (hq a (List.mem_of_mem_take ha)) _
  ·rw [List.mem_singleton.1 hm]; exact in0
end Go.Proofs.YtnphhelbianjpaaGreatDoor
namespace Go.Proofs.YtnphhelbianjpaaGreatDoor
set_option maxRecDepth 20000
open Go Go.Proofs.YtnphhelbianjpaaGreatDoor.V Go.Proofs
def scM (p : Prg) (s : State) (k : Nat) : List (Nat × TObj) := [(k, .cells [.fp (cCore p) 0, .s (k + 1) 1 0 s.mem.length true, .s (k + 2) 16 0 s.thr.length true, .v (.slice none 0 0), tI s.lock] 128), (k + 1, memT s), (k + 2, thrT s)]
section
attribute [local irreducible] TwS TwR thenT inBlockT retT nextW localW loadedW swapW
variable {G : World → Prop}
theorem new_own (p : Prg) (ho : okP p) (hc : checkC p = 0) (hs : okS (start0 p)) (hb : (start0 p).bufs = []) : TC prog Tabs 32 [.agg (cPrg p)] ⟨[], 0⟩ [] (fun r σ' => r = .p 0 0 ∧ σ' = ⟨scM p (start0 p) 0, 3⟩) := by
 have c := make_spec p ho hc
 have c2 := startS_own (G := Tabs) p hs hb
 refine TC.at mixedOk F32 rfl fun C hP hG hp => goF ?_; simp only [F32, targEnv, Nat.zero_add, Nat.reduceAdd]
 repeat' (first | refine goR rfl ?_ | refine goS rfl ?_ | refine tret1 rfl ?_ | refine tretN rfl ?_ | refine gY rfl rfl ?_ | refine gN rfl rfl ?_ | refine qT rfl rfl ?_ | refine qF rfl rfl ?_ | refine cA rfl (by rw [hP, hG]; exact c) rfl ?_ | refine tr_mcallB hP hG (c2) rfl [] rfl rfl rfl rfl rfl rfl ?_ | fail)
 refine twret rfl ?_ ⟨rfl, rfl⟩
 (refine w_ren [(0, 3), (1, 1), (2, 2)] rfl (by rw [hp]; decide) rfl ?_ ?_ <;> repeat' (first | exact .nil | exact .f _ rfl | exact .s _ _ _ _ _ _ rfl | exact .p _ _ _ rfl | exact .rows _ _ _ | exact .iter _ _ | exact RenL.nil _ | refine RenL.cons ?_ ?_ | refine .cells _ _ _ ?_ | refine .cons _ _ _ _ rfl ?_ ?_ | refine .cons _ _ _ _ _ rfl rfl ?_ ?_ | refine .rowsE ?_ | refine .sE rfl ?_ | exact .m _ _ rfl | refine .fE rfl ?_ | exact rnT_ok rfl | exact RenO.mB _ | exact RenO.mB [] | fail))
theorem state_own (p : Prg) (s : State) (hs : okS s) (hb : s.bufs = []) : TC prog G 33 [.p 0 0] ⟨scM p s 0, 3⟩ [0, 1, 2] (fun r σ' => r = .agg [.s 3 1 0 s.mem.length true, .s 4 16 0 s.thr.length true, .v (.slice none 0 0), tI s.lock] ∧ σ' = ⟨scM p s 0 ++ [(3, memT s), (4, thrT s)], 5⟩) := by
 have c := copySt_own (G := G) s hs hb
 rw [show cState s = [rwI s.mem, .lst 16 (s.thr.map cThr), .lst 1 [], tI s.lock] by rw [cState, hb]; rfl] at c
 refine TC.at mixedOk F33 rfl fun C hP hG hp => goF ?_; simp only [F33, targEnv, Nat.zero_add, Nat.reduceAdd]
 repeat' (first | refine goR rfl ?_ | refine goS rfl ?_ | refine tret1 rfl ?_ | refine tretN rfl ?_ | refine gY rfl rfl ?_ | refine gN rfl rfl ?_ | refine qT rfl rfl ?_ | refine qF rfl rfl ?_ | refine tr_mcallF hP hG c rfl (.cons (.aggL (.cons (.s 1 1 _ true _ _ rfl (by rw [lM])) (.cons (.s 2 16 _ true _ _ rfl (by rw [lM])) (.cons (.nil 1) (.cons (.fr rfl) .nil))))) .nil) rfl rfl rfl rfl (selfS_cons (self_rows (fun _ => rfl) _ _ _) (selfS_cons (self_rows (fun _ => rfl) _ _ _) selfS_nil)) ?_ | fail)
 refine twret rfl ?_ ⟨rfl, rfl⟩
 (refine w_ren [(0, 0), (1, 1), (2, 2), (3, 4), (4, 5)] rfl (by rw [hp]; decide) rfl ?_ ?_ <;> repeat' (first | exact .nil | exact .f _ rfl | exact .s _ _ _ _ _ _ rfl | exact .p _ _ _ rfl | exact .rows _ _ _ | exact .iter _ _ | exact RenL.nil _ | refine RenL.cons ?_ ?_ | refine .cells _ _ _ ?_ | refine .cons _ _ _ _ rfl ?_ ?_ | refine .cons _ _ _ _ _ rfl rfl ?_ ?_ | refine .rowsE ?_ | refine .sE rfl ?_ | exact .m _ _ rfl | refine .fE rfl ?_ | exact rnT_ok rfl | exact RenO.mB _ | exact RenO.mB [] | fail))
theorem step_own (p : Prg) (ho : okP p) (hc : checkC p = 0) (s : State) (hq : stQ p s) (hl : s.thr.length ≤ 1000000000) (t : Int) : TC prog Tabs 34 [.p 0 0, tI t] ⟨scM p s 0, 3⟩ [0, 1, 2] (fun r σ' => r = tB (scW p s t).2 ∧ σ' = ⟨scM p (scW p s t).1 0, 3⟩) := by
 refine TC.at mixedOk F34 rfl fun C hP hG hp => goF ?_; simp only [F34, targEnv, Nat.zero_add, Nat.reduceAdd]
 by_cases ht : 0 ≤ t ∧ t < (s.thr.length : Int)
 ·obtain ⟨k, rfl⟩ : ∃ k : Nat, t = k := ⟨t.toNat, by omega⟩
  have hkl : k < s.thr.length := by omega
  have hx : s.thr[k]? = some s.thr[k] := List.getElem?_eq_getElem hkl
  generalize s.thr[k] = x at hx
  have hxq := hq.thr x (List.mem_of_getElem? hx)
  have hxt : (s.thr.map cThr)[k]? = some (cThr x) := by rw [List.getElem?_map, hx]; rfl
  have c1 := next_spec p ho hc k x hxq.r
  have c2 := localP_spec p ho hc k x hxq.r
  have c3 := fun v => loaded_spec p ho hc k x hxq.r v
  have c4 := fun v => swap_spec p ho hc k x hxq.r v
  have hadr := next_addr hc (t := k) (x := x)
  rw [show scW p s (k : Int) = stepS p s k x by rw [scW, if_pos (by omega)]; simp only [Int.toNat_natCast, hx]]
  unfold stepS
  generalize nextW p k x = d at c1 hadr
  generalize localW p k x = y at c2
  have hrd : ∀ (h : d.kind = 2 ∨ d.kind = 3 ∨ d.kind = 4), ∃ a : Nat, d.addr = a ∧ a < s.mem.length ∧ (s.mem.map fun n => [tI n])[a]? = some [tI (rdM s d.addr)] := fun h => by
   obtain ⟨h1, h2⟩ := hadr h
   rw [← hq.len] at h2
   refine ⟨d.addr.toNat, by omega, by omega, ?_⟩
   rw [List.getElem?_map, rdM, List.getD_eq_getElem?_getD, List.getElem?_eq_getElem (by omega)]
   rfl
  by_cases k0 : d.kind = 0
  ·rw [if_pos k0]
   repeat' (first | refine goR rfl ?_ | refine goS rfl ?_ | refine tret1 rfl ?_ | refine tretN rfl ?_ | refine gY rfl rfl ?_ | refine gN rfl rfl ?_ | refine qT rfl rfl ?_ | refine qF rfl rfl ?_ | refine cA rfl (by rw [hP, hG]; exact c1) rfl ?_ | refine lT (tl_ixo (m := k) rfl rfl rfl (by omega)) ?_ | refine lT (tl_ldE rfl rfl hxt rfl) ?_ | ((first | refine gS rfl (fun h => ?_) (fun h => ?_) | refine ts_cond rfl (fun h => ?_) (fun h => ?_)) <;> (try simp only [bs0, beq_iff_eq] at h) <;> try (exfalso; omega; done)) | fail)
   refine twret rfl ?_ ⟨rfl, rfl⟩
   (refine w_ren [(0, 0), (1, 1), (2, 2)] rfl (by rw [hp]; decide) rfl ?_ ?_ <;> repeat' (first | exact .nil | exact .f _ rfl | exact .s _ _ _ _ _ _ rfl | exact .p _ _ _ rfl | exact .rows _ _ _ | exact .iter _ _ | exact RenL.nil _ | refine RenL.cons ?_ ?_ | refine .cells _ _ _ ?_ | refine .cons _ _ _ _ rfl ?_ ?_ | refine .cons _ _ _ _ _ rfl rfl ?_ ?_ | refine .rowsE ?_ | refine .sE rfl ?_ | exact .m _ _ rfl | refine .fE rfl ?_ | exact rnT_ok rfl | exact RenO.mB _ | exact RenO.mB [] | fail))
  rw [if_neg k0]
  by_cases k2 : d.kind = 2
  ·rw [if_pos k2]
   obtain ⟨a, ha, hal, hag⟩ := hrd (.inl k2)
   have c3 := c3 (rdM s d.addr)
   repeat' (first | refine goR rfl ?_ | refine goS rfl ?_ | refine tret1 rfl ?_ | refine tretN rfl ?_ | refine gY rfl rfl ?_ | refine gN rfl rfl ?_ | refine qT rfl rfl ?_ | refine qF rfl rfl ?_ | refine cA rfl (by rw [hP, hG]; exact c1) rfl ?_ | refine cA rfl (by rw [hP, hG]; exact c3) rfl ?_ | refine lT (tl_ixo (m := k) rfl rfl rfl (by omega)) ?_ | refine lT (tl_ixo (m := a) rfl rfl ha (by omega)) ?_ | refine lT (tl_ldE rfl rfl hxt rfl) ?_ | refine lT (tl_ldE rfl rfl hag rfl) ?_ | refine tr_storeE rfl rfl hxt rfl rfl rfl rfl rfl rfl ?_ | ((first | refine gS rfl (fun h => ?_) (fun h => ?_) | refine ts_cond rfl (fun h => ?_) (fun h => ?_)) <;> (try simp only [bs0, beq_iff_eq] at h) <;> try (exfalso; omega; done)) | fail)
   refine twret rfl ?_ ⟨rfl, rfl⟩
   (refine w_ren [(0, 0), (1, 1), (2, 2)] rfl (by rw [hp]; decide) rfl ?_ ?_ <;> repeat' (first | exact .nil | exact .f _ rfl | exact .s _ _ _ _ _ _ rfl | exact .p _ _ _ rfl | exact .rows _ _ _ | exact .iter _ _ | exact RenL.nil _ | refine RenL.cons ?_ ?_ | refine .cells _ _ _ ?_ | refine .cons _ _ _ _ rfl ?_ ?_ | refine .cons _ _ _ _ _ rfl rfl ?_ ?_ | refine .rowsE ?_ | refine .sE rfl ?_ | exact .m _ _ rfl | refine .fE rfl ?_ | exact rnT_ok rfl | exact RenO.mB _ | exact RenO.mB [] | fail))
   all_goals first | rfl | exact (List.length_set ..).symm | exact List.length_set .. | exact List.map_set.symm | exact List.map_set | (rw [List.map_set]; done) | skip
  rw [if_neg k2]
  by_cases k3 : d.kind = 3
  ·rw [if_pos k3]
   obtain ⟨a, ha, hal, hag⟩ := hrd (.inr (.inl k3))
   rw [show wrM s d.addr d.val = s.mem.set a d.val by rw [wrM, ha, Int.toNat_natCast]]
   repeat' (first | refine goR rfl ?_ | refine goS rfl ?_ | refine tret1 rfl ?_ | refine tretN rfl ?_ | refine gY rfl rfl ?_ | refine gN rfl rfl ?_ | refine qT rfl rfl ?_ | refine qF rfl rfl ?_ | refine cA rfl (by rw [hP, hG]; exact c1) rfl ?_ | refine lT (tl_ixo (m := k) rfl rfl rfl (by omega)) ?_ | refine lT (tl_ldE rfl rfl hxt rfl) ?_ | refine tr_storeE rfl rfl hxt rfl rfl rfl rfl rfl rfl ?_ | refine cA rfl (by rw [hP, hG]; exact c2) rfl ?_ | refine lT (tl_ixo (m := a) rfl rfl ha (by omega)) ?_ | refine lT (tl_ldE rfl rfl hag rfl) ?_ | refine tr_storeE rfl rfl hag rfl rfl rfl rfl rfl rfl ?_ | ((first | refine gS rfl (fun h => ?_) (fun h => ?_) | refine ts_cond rfl (fun h => ?_) (fun h => ?_)) <;> (try simp only [bs0, beq_iff_eq] at h) <;> try (exfalso; omega; done)) | fail)
   refine twret rfl ?_ ⟨rfl, rfl⟩
   (refine w_ren [(0, 0), (1, 1), (2, 2)] rfl (by rw [hp]; decide) rfl ?_ ?_ <;> repeat' (first | exact .nil | exact .f _ rfl | exact .s _ _ _ _ _ _ rfl | exact .p _ _ _ rfl | exact .rows _ _ _ | exact .iter _ _ | exact RenL.nil _ | refine RenL.cons ?_ ?_ | refine .cells _ _ _ ?_ | refine .cons _ _ _ _ rfl ?_ ?_ | refine .cons _ _ _ _ _ rfl rfl ?_ ?_ | refine .rowsE ?_ | refine .sE rfl ?_ | exact .m _ _ rfl | refine .fE rfl ?_ | exact rnT_ok rfl | exact RenO.mB _ | exact RenO.mB [] | fail))
   all_goals first | rfl | exact (List.length_set ..).symm | exact List.length_set .. | exact List.map_set.symm | exact List.map_set | (rw [List.map_set]; done) | skip
  rw [if_neg k3]
  by_cases k4 : d.kind = 4
  ·rw [if_pos k4]
   obtain ⟨a, ha, hal, hag⟩ := hrd (.inr (.inr k4))
   have c4 := c4 (rdM s d.addr)
   generalize swapW p k x (rdM s d.addr) = w at c4
   obtain ⟨y2, v2, b2⟩ := w
   cases b2
   ·simp only [Bool.false_eq_true, if_false]
    repeat' (first | refine goR rfl ?_ | refine goS rfl ?_ | refine tret1 rfl ?_ | refine tretN rfl ?_ | refine gY rfl rfl ?_ | refine gN rfl rfl ?_ | refine qT rfl rfl ?_ | refine qF rfl rfl ?_ | refine cA rfl (by rw [hP, hG]; exact c1) rfl ?_ | refine lT (tl_ixo (m := k) rfl rfl rfl (by omega)) ?_ | refine lT (tl_ldE rfl rfl hxt rfl) ?_ | refine tr_storeE rfl rfl hxt rfl rfl rfl rfl rfl rfl ?_ | refine cA rfl (by rw [hP, hG]; exact c4) rfl ?_ | refine lT (tl_ixo (m := a) rfl rfl ha (by omega)) ?_ | refine lT (tl_ldE rfl rfl hag rfl) ?_ | refine tr_storeE rfl rfl hag rfl rfl rfl rfl rfl rfl ?_ | ((first | refine gS rfl (fun h => ?_) (fun h => ?_) | refine ts_cond rfl (fun h => ?_) (fun h => ?_)) <;> (try simp only [bs0, beq_iff_eq] at h) <;> try (exfalso; omega; done)) | fail)
    refine twret rfl ?_ ⟨rfl, rfl⟩
    (refine w_ren [(0, 0), (1, 1), (2, 2)] rfl (by rw [hp]; decide) rfl ?_ ?_ <;> repeat' (first | exact .nil | exact .f _ rfl | exact .s _ _ _ _ _ _ rfl | exact .p _ _ _ rfl | exact .rows _ _ _ | exact .iter _ _ | exact RenL.nil _ | refine RenL.cons ?_ ?_ | refine .cells _ _ _ ?_ | refine .cons _ _ _ _ rfl ?_ ?_ | refine .cons _ _ _ _ _ rfl rfl ?_ ?_ | refine .rowsE ?_ | refine .sE rfl ?_ | exact .m _ _ rfl | refine .fE rfl ?_ | exact rnT_ok rfl | exact RenO.mB _ | exact RenO.mB [] | fail))
    all_goals first | rfl | exact (List.length_set ..).symm | exact List.length_set .. | exact List.map_set.symm | exact List.map_set | (rw [List.map_set]; done) | skip
   ·simp only [if_true]
    rw [show wrM s d.addr v2 = s.mem.set a v2 by rw [wrM, ha, Int.toNat_natCast]]
    repeat' (first | refine goR rfl ?_ | refine goS rfl ?_ | refine tret1 rfl ?_ | refine tretN rfl ?_ | refine gY rfl rfl ?_ | refine gN rfl rfl ?_ | refine qT rfl rfl ?_ | refine qF rfl rfl ?_ | refine cA rfl (by rw [hP, hG]; exact c1) rfl ?_ | refine lT (tl_ixo (m := k) rfl rfl rfl (by omega)) ?_ | refine lT (tl_ldE rfl rfl hxt rfl) ?_ | refine tr_storeE rfl rfl hxt rfl rfl rfl rfl rfl rfl ?_ | refine cA rfl (by rw [hP, hG]; exact c4) rfl ?_ | refine lT (tl_ixo (m := a) rfl rfl ha (by omega)) ?_ | refine lT (tl_ldE rfl rfl hag rfl) ?_ | refine tr_storeE rfl rfl hag rfl rfl rfl rfl rfl rfl ?_ | ((first | refine gS rfl (fun h => ?_) (fun h => ?_) | refine ts_cond rfl (fun h => ?_) (fun h => ?_)) <;> (try simp only [bs0, beq_iff_eq] at h) <;> try (exfalso; omega; done)) | fail)
    refine twret rfl ?_ ⟨rfl, rfl⟩
    (refine w_ren [(0, 0), (1, 1), (2, 2)] rfl (by rw [hp]; decide) rfl ?_ ?_ <;> repeat' (first | exact .nil | exact .f _ rfl | exact .s _ _ _ _ _ _ rfl | exact .p _ _ _ rfl | exact .rows _ _ _ | exact .iter _ _ | exact RenL.nil _ | refine RenL.cons ?_ ?_ | refine .cells _ _ _ ?_ | refine .cons _ _ _ _ rfl ?_ ?_ | refine .cons _ _ _ _ _ rfl rfl ?_ ?_ | refine .rowsE ?_ | refine .sE rfl ?_ | exact .m _ _ rfl | refine .fE rfl ?_ | exact rnT_ok rfl | exact RenO.mB _ | exact RenO.mB [] | fail))
    all_goals first | rfl | exact (List.length_set ..).symm | exact List.length_set .. | exact List.map_set.symm | exact List.map_set | (rw [List.map_set]; done) | skip
  rw [if_neg k4]
  repeat' (first | refine goR rfl ?_ | refine goS rfl ?_ | refine tret1 rfl ?_ | refine tretN rfl ?_ | refine gY rfl rfl ?_ | refine gN rfl rfl ?_ | refine qT rfl rfl ?_ | refine qF rfl rfl ?_ | refine cA rfl (by rw [hP, hG]; exact c1) rfl ?_ | refine lT (tl_ixo (m := k) rfl rfl rfl (by omega)) ?_ | refine lT (tl_ldE rfl rfl hxt rfl) ?_ | refine tr_storeE rfl rfl hxt rfl rfl rfl rfl rfl rfl ?_ | refine cA rfl (by rw [hP, hG]; exact c2) rfl ?_ | ((first | refine gS rfl (fun h => ?_) (fun h => ?_) | refine ts_cond rfl (fun h => ?_) (fun h => ?_)) <;> (try simp only [bs0, beq_iff_eq] at h) <;> try (exfalso; omega; done)) | fail)
  refine twret rfl ?_ ⟨rfl, rfl⟩
  (refine w_ren [(0, 0), (1, 1), (2, 2)] rfl (by rw [hp]; decide) rfl ?_ ?_ <;> repeat' (first | exact .nil | exact .f _ rfl | exact .s _ _ _ _ _ _ rfl | exact .p _ _ _ rfl | exact .rows _ _ _ | exact .iter _ _ | exact RenL.nil _ | refine RenL.cons ?_ ?_ | refine .cells _ _ _ ?_ | refine .cons _ _ _ _ rfl ?_ ?_ | refine .cons _ _ _ _ _ rfl rfl ?_ ?_ | refine .rowsE ?_ | refine .sE rfl ?_ | exact .m _ _ rfl | refine .fE rfl ?_ | exact rnT_ok rfl | exact RenO.mB _ | exact RenO.mB [] | fail))
  all_goals first | rfl | exact (List.length_set ..).symm | exact List.length_set .. | exact List.map_set.symm | exact List.map_set | (rw [List.map_set]; done) | skip
 ·rw [show scW p s t = (s, false) by
   unfold scW
   split
   ·rw [List.getElem?_eq_none (by omega)]
   ·rfl]
  repeat' (first | refine goR rfl ?_ | refine goS rfl ?_ | refine tret1 rfl ?_ | refine tretN rfl ?_ | refine gY rfl rfl ?_ | refine gN rfl rfl ?_ | refine qT rfl rfl ?_ | refine qF rfl rfl ?_ | ((first | refine gS rfl (fun h => ?_) (fun h => ?_) | refine ts_cond rfl (fun h => ?_) (fun h => ?_)) <;> (try simp only [bs0, beq_iff_eq] at h) <;> try (exfalso; omega; done)) | fail)
  all_goals
   refine twret rfl ?_ ⟨rfl, rfl⟩
   (refine w_ren [(0, 0), (1, 1), (2, 2)] rfl (by rw [hp]; decide) rfl ?_ ?_ <;> repeat' (first | exact .nil | exact .f _ rfl | exact .s _ _ _ _ _ _ rfl | exact .p _ _ _ rfl | exact .rows _ _ _ | exact .iter _ _ | exact RenL.nil _ | refine RenL.cons ?_ ?_ | refine .cells _ _ _ ?_ | refine .cons _ _ _ _ rfl ?_ ?_ | refine .cons _ _ _ _ _ rfl rfl ?_ ?_ | refine .rowsE ?_ | refine .sE rfl ?_ | exact .m _ _ rfl | refine .fE rfl ?_ | exact rnT_ok rfl | exact RenO.mB _ | exact RenO.mB [] | fail))
   all_goals first | rfl | exact (List.length_set ..).symm | exact List.length_set .. | exact List.map_set.symm | exact List.map_set | (rw [List.map_set]; done) | skip
end
end Go.Proofs.YtnphhelbianjpaaGreatDoor
namespace Go.Proofs.YtnphhelbianjpaaGreatDoor
set_option maxRecDepth 20000
open Go Go.Proofs.YtnphhelbianjpaaGreatDoor.V Go.Proofs
def stepsF (l : List Int) (th most : Nat) : List Int := (l.take most).map fun n => n % ((th + 1 : Nat) : Int)
section
attribute [local irreducible] TwS TwR thenT inBlockT retT nextW localW loadedW swapW scW
variable {G : World → Prop}
theorem stepsF_succ {l : List Int} {th i : Nat} {x : Int} (hx : l[i]? = some x) : stepsF l th (i + 1) = stepsF l th i ++ [x % ((th + 1 : Nat) : Int)] := by
 unfold stepsF
 rw [List.take_add_one, hx, List.map_append]; rfl
theorem steps_own (l : List Int) (th most : Nat) (hth : th ≤ 1000) (hm : most ≤ 1000) : TC prog G 10 [rwI l, tI th, tI most] ⟨[], 0⟩ [] (fun r σ' => r = .s 0 1 0 (stepsF l th most).length true ∧ σ' = ⟨[(0, .rows 1 ((stepsF l th most).map fun n => [tI n]) 3)], 1⟩) := by
 have hml : (l.map fun n => [tI n]).length = l.length := lM ..
 have e1 : IntKind.i64.wrap ((th : Int) + 1) = ((th + 1 : Nat) : Int) := by rw [w64 (by omega)]; rfl
 refine TC.at mixedOk F10 rfl fun C hP hG hp => goF ?_; simp only [F10, targEnv, Nat.zero_add, Nat.reduceAdd]
 repeat' (first | refine goR rfl ?_ | refine goS rfl ?_ | refine tret1 rfl ?_ | refine tretN rfl ?_ | refine gY rfl rfl ?_ | refine gN rfl rfl ?_ | refine qT rfl rfl ?_ | refine qF rfl rfl ?_ | fail)
 refine loopS (fun m env σ => ∃ i : Nat, i ≤ l.length ∧ i ≤ most ∧ m = most - i ∧ env = [(0, rwI l), (1, tI th), (2, tI most), (7, .s 0 1 0 i true), (8, tI i)] ∧ σ = ⟨[(0, .rows 1 ((stepsF l th i).map fun n => [tI n]) 3)], 1⟩) most
  ((w_virt (d := 7) 1 3 rfl).trans ?_) ⟨0, by omega, by omega, rfl, rfl, rfl⟩ ?_
 ·(refine w_ren [(0, 0)] rfl (by rw [hp]; decide) rfl ?_ ?_ <;> repeat' (first | exact .nil | exact .f _ rfl | exact .s _ _ _ _ _ _ rfl | exact .p _ _ _ rfl | exact .rows _ _ _ | exact .iter _ _ | exact RenL.nil _ | refine RenL.cons ?_ ?_ | refine .cells _ _ _ ?_ | refine .cons _ _ _ _ rfl ?_ ?_ | refine .cons _ _ _ _ _ rfl rfl ?_ ?_ | refine .rowsE ?_ | refine .sE rfl ?_ | exact .m _ _ rfl | refine .fE rfl ?_ | exact rnT_ok rfl | exact RenO.mB _ | exact RenO.mB [] | fail))
 rintro m env σ ⟨i, hi, him, rfl, rfl, rfl⟩
 have hsl : (stepsF l th i).length = i := by rw [stepsF, lM, List.length_take]; omega
 by_cases hlt : i < l.length ∧ i < most
 ·have hx : l[i]? = some l[i] := List.getElem?_eq_getElem (by omega)
  generalize l[i] = x at hx
  have c : ∀ G, Pure prog G 25 [tI x, tI ((th + 1 : Nat) : Int)] (tI (x % ((th + 1 : Nat) : Int))) := fun G => pick_spec x th (by omega)
  rw [← e1] at c
  repeat' (first | refine goR rfl ?_ | refine goS rfl ?_ | refine tret1 rfl ?_ | refine tretN rfl ?_ | refine gY rfl rfl ?_ | refine gN rfl rfl ?_ | refine qT rfl rfl ?_ | refine qF rfl rfl ?_ | refine cA rfl (by rw [hP]; exact c _) rfl ?_ | refine lT (tl_ixm rfl rfl rfl hx) ?_ | refine tr_append rfl rfl (by rw [lM, hsl]) (.inr (.inr ⟨_, _, _, _, rfl, rfl, rfl⟩)) (by simp only [List.length_cons, List.length_nil]; omega) rfl ?_ | ((first | refine gS rfl (fun h => ?_) (fun h => ?_) | refine ts_cond rfl (fun h => ?_) (fun h => ?_)) <;> (try simp only [bs0, beq_iff_eq] at h) <;> try (exfalso; omega; done)) | fail)
  refine again (m' := most - (i + 1)) (by omega) ?_ ⟨i + 1, by omega, by omega, rfl, rfl, rfl⟩
  (refine w_ren [(0, 2)] rfl (by rw [hp]; decide) rfl ?_ ?_ <;> repeat' (first | exact .nil | exact .f _ rfl | exact .s _ _ _ _ _ _ rfl | exact .p _ _ _ rfl | exact .rows _ _ _ | exact .iter _ _ | exact RenL.nil _ | refine RenL.cons ?_ ?_ | refine .cells _ _ _ ?_ | refine .cons _ _ _ _ rfl ?_ ?_ | refine .cons _ _ _ _ _ rfl rfl ?_ ?_ | refine .rowsE ?_ | refine .sE rfl ?_ | exact .m _ _ rfl | refine .fE rfl ?_ | exact rnT_ok rfl | exact RenO.mB _ | exact RenO.mB [] | fail))
  ·rw [w64 (by omega)]; rfl
  ·rw [stepsF_succ hx, e1, List.map_append]; rfl
 ·have hfin : stepsF l th most = stepsF l th i := by
   unfold stepsF
   by_cases h : i = most
   ·rw [h]
   ·rw [List.take_of_length_le (by omega), List.take_of_length_le (by omega)]
  rw [hfin, hsl]
  repeat' (first | refine goR rfl ?_ | refine goS rfl ?_ | refine tret1 rfl ?_ | refine tretN rfl ?_ | refine gY rfl rfl ?_ | refine gN rfl rfl ?_ | refine qT rfl rfl ?_ | refine qF rfl rfl ?_ | ((first | refine gS rfl (fun h => ?_) (fun h => ?_) | refine ts_cond rfl (fun h => ?_) (fun h => ?_)) <;> (try simp only [bs0, beq_iff_eq] at h) <;> try (exfalso; omega; done)) | fail)
  all_goals
   refine twret rfl ?_ ⟨rfl, rfl⟩
   (refine w_ren [(0, 0)] rfl (by rw [hp]; decide) rfl ?_ ?_ <;> repeat' (first | exact .nil | exact .f _ rfl | exact .s _ _ _ _ _ _ rfl | exact .p _ _ _ rfl | exact .rows _ _ _ | exact .iter _ _ | exact RenL.nil _ | refine RenL.cons ?_ ?_ | refine .cells _ _ _ ?_ | refine .cons _ _ _ _ rfl ?_ ?_ | refine .cons _ _ _ _ _ rfl rfl ?_ ?_ | refine .rowsE ?_ | refine .sE rfl ?_ | exact .m _ _ rfl | refine .fE rfl ?_ | exact rnT_ok rfl | exact RenO.mB _ | exact RenO.mB [] | fail))
end
end Go.Proofs.YtnphhelbianjpaaGreatDoor
namespace Go.Proofs.YtnphhelbianjpaaGreatDoor
set_option maxRecDepth 20000
open Go Go.Proofs.YtnphhelbianjpaaGreatDoor.V Go.Proofs
theorem zThr_q : thrQ zThr := ⟨zThr_in, in0⟩
theorem start_q {p : Prg} (h : ∀ v ∈ startF p.syms, inR v) : stQ p (start0 p) := ⟨rfl, fun x hx => by rw [(List.mem_replicate.1 hx).2]; exact zThr_q, h⟩
theorem start_okS {p : Prg} (hc : checkC p = 0) : okS (start0 p) := by
 obtain ⟨k1, k2, k3, _⟩ := check_syms hc
 exact ⟨by have := start_len p.syms k3; show (startF p.syms).length ≤ _; omega, by show (List.replicate _ _).length ≤ _; rw [List.length_replicate]; omega, Nat.zero_le _, fun s hs => by cases hs⟩
end Go.Proofs.YtnphhelbianjpaaGreatDoor
namespace Go.Proofs.YtnphhelbianjpaaGreatDoor
set_option maxRecDepth 20000
open Go Go.Proofs.YtnphhelbianjpaaGreatDoor.V Go.Proofs
def cActs (l : List (List Act)) : TV := .lst 1 (l.map fun r => [.lst 5 (r.map cAct)])
theorem stQ_okS {p : Prg} (hc : checkC p = 0) {s : State} (h : stQ p s) (ht : s.thr.length = p.threads.length) (hb : s.bufs = []) : okS s := by
 obtain ⟨k1, k2, k3, _⟩ := check_syms hc
 have := start_len p.syms k3
 exact ⟨by rw [h.len]; omega, by omega, by rw [hb]; exact Nat.zero_le _, by rw [hb]; intro l hl; cases hl⟩
section
attribute [local irreducible] TwS TwR thenT inBlockT retT nextW localW loadedW swapW scW
variable {G : World → Prop}
end
end Go.Proofs.YtnphhelbianjpaaGreatDoor
namespace Go.Proofs.YtnphhelbianjpaaGreatDoor
set_option maxRecDepth 20000
open Go Go.Proofs.YtnphhelbianjpaaGreatDoor.V Go.Proofs
def rfM (s : State) (B : TV) (k : Nat) : List (Nat × TObj) := [(k, .cells [.s (k + 1) 1 0 s.mem.length true, .s (k + 2) 16 0 s.thr.length true, B, tI s.lock] 46), (k + 1, memT s), (k + 2, thrT s)]
section
attribute [local irreducible] TwS TwR thenT inBlockT retT nextW localW loadedW swapW
variable {G : World → Prop}
theorem sc_own (p : Prg) (ho : okP p) (hc : checkC p = 0) (s : State) (hq : stQ p s) (hl : s.thr.length ≤ 1000000000) (t : Int) : TC prog Tabs 38 [.agg (cPrg p), .p 0 0, tI t] ⟨rfM s (.lst 1 []) 0, 3⟩ [0, 1, 2] (fun r σ' => r = tB (scW p s t).2 ∧ σ' = ⟨rfM (scW p s t).1 (.lst 1 []) 0, 3⟩) := by
 refine TC.at mixedOk F38 rfl fun C hP hG hp => goF ?_; simp only [F38, targEnv, Nat.zero_add, Nat.reduceAdd]
 by_cases ht : 0 ≤ t ∧ t < (s.thr.length : Int)
 ·obtain ⟨k, rfl⟩ : ∃ k : Nat, t = k := ⟨t.toNat, by omega⟩
  have hkl : k < s.thr.length := by omega
  have hx : s.thr[k]? = some s.thr[k] := List.getElem?_eq_getElem hkl
  generalize s.thr[k] = x at hx
  have hxq := hq.thr x (List.mem_of_getElem? hx)
  have hxt : (s.thr.map cThr)[k]? = some (cThr x) := by rw [List.getElem?_map, hx]; rfl
  have c1 := next_spec2 p ho hc k x
  have c2 := localP_spec2 p ho hc k x
  have c3 := fun v => loaded_spec2 p ho hc k x v
  have c4 := fun v => swap_spec2 p ho hc k x v
  have hadr := next_addr hc (t := k) (x := x)
  rw [show scW p s (k : Int) = stepS p s k x by rw [scW, if_pos (by omega)]; simp only [Int.toNat_natCast, hx]]
  unfold stepS
  generalize nextW p k x = d at c1 hadr
  generalize localW p k x = y at c2
  have hrd : ∀ (h : d.kind = 2 ∨ d.kind = 3 ∨ d.kind = 4), ∃ a : Nat, d.addr = a ∧ a < s.mem.length ∧ (s.mem.map fun n => [tI n])[a]? = some [tI (rdM s d.addr)] := fun h => by
   obtain ⟨h1, h2⟩ := hadr h
   rw [← hq.len] at h2
   refine ⟨d.addr.toNat, by omega, by omega, ?_⟩
   rw [List.getElem?_map, rdM, List.getD_eq_getElem?_getD, List.getElem?_eq_getElem (by omega)]
   rfl
  by_cases k0 : d.kind = 0
  ·rw [if_pos k0]
   repeat' (first | refine goR rfl ?_ | refine goS rfl ?_ | refine tret1 rfl ?_ | refine tretN rfl ?_ | refine gY rfl rfl ?_ | refine gN rfl rfl ?_ | refine qT rfl rfl ?_ | refine qF rfl rfl ?_ | refine cA rfl (by rw [hP, hG]; exact c1) rfl ?_ | refine lT (tl_ixo (m := k) rfl rfl rfl (by omega)) ?_ | refine lT (tl_ldE rfl rfl hxt rfl) ?_ | ((first | refine gS rfl (fun h => ?_) (fun h => ?_) | refine ts_cond rfl (fun h => ?_) (fun h => ?_)) <;> (try simp only [bs0, beq_iff_eq] at h) <;> try (exfalso; omega; done)) | fail)
   refine twret rfl ?_ ⟨rfl, rfl⟩
   (refine w_ren [(0, 0), (1, 1), (2, 2)] rfl (by rw [hp]; decide) rfl ?_ ?_ <;> repeat' (first | exact .nil | exact .f _ rfl | exact .s _ _ _ _ _ _ rfl | exact .p _ _ _ rfl | exact .rows _ _ _ | exact .iter _ _ | exact RenL.nil _ | refine RenL.cons ?_ ?_ | refine .cells _ _ _ ?_ | refine .cons _ _ _ _ rfl ?_ ?_ | refine .cons _ _ _ _ _ rfl rfl ?_ ?_ | refine .rowsE ?_ | refine .sE rfl ?_ | exact .m _ _ rfl | refine .fE rfl ?_ | exact rnT_ok rfl | exact RenO.mB _ | exact RenO.mB [] | fail))
  rw [if_neg k0]
  by_cases k2 : d.kind = 2
  ·rw [if_pos k2]
   obtain ⟨a, ha, hal, hag⟩ := hrd (.inl k2)
   have c3 := c3 (rdM s d.addr)
   repeat' (first | refine goR rfl ?_ | refine goS rfl ?_ | refine tret1 rfl ?_ | refine tretN rfl ?_ | refine gY rfl rfl ?_ | refine gN rfl rfl ?_ | refine qT rfl rfl ?_ | refine qF rfl rfl ?_ | refine cA rfl (by rw [hP, hG]; exact c1) rfl ?_ | refine cA rfl (by rw [hP, hG]; exact c3) rfl ?_ | refine lT (tl_ixo (m := k) rfl rfl rfl (by omega)) ?_ | refine lT (tl_ixo (m := a) rfl rfl ha (by omega)) ?_ | refine lT (tl_ldE rfl rfl hxt rfl) ?_ | refine lT (tl_ldE rfl rfl hag rfl) ?_ | refine tr_storeE rfl rfl hxt rfl rfl rfl rfl rfl rfl ?_ | ((first | refine gS rfl (fun h => ?_) (fun h => ?_) | refine ts_cond rfl (fun h => ?_) (fun h => ?_)) <;> (try simp only [bs0, beq_iff_eq] at h) <;> try (exfalso; omega; done)) | fail)
   refine twret rfl ?_ ⟨rfl, rfl⟩
   (refine w_ren [(0, 0), (1, 1), (2, 2)] rfl (by rw [hp]; decide) rfl ?_ ?_ <;> repeat' (first | exact .nil | exact .f _ rfl | exact .s _ _ _ _ _ _ rfl | exact .p _ _ _ rfl | exact .rows _ _ _ | exact .iter _ _ | exact RenL.nil _ | refine RenL.cons ?_ ?_ | refine .cells _ _ _ ?_ | refine .cons _ _ _ _ rfl ?_ ?_ | refine .cons _ _ _ _ _ rfl rfl ?_ ?_ | refine .rowsE ?_ | refine .sE rfl ?_ | exact .m _ _ rfl | refine .fE rfl ?_ | exact rnT_ok rfl | exact RenO.mB _ | exact RenO.mB [] | fail))
   all_goals first | rfl | exact (List.length_set ..).symm | exact List.length_set .. | exact List.map_set.symm | exact List.map_set | (rw [List.map_set]; done) | skip
  rw [if_neg k2]
  by_cases k3 : d.kind = 3
  ·rw [if_pos k3]
   obtain ⟨a, ha, hal, hag⟩ := hrd (.inr (.inl k3))
   rw [show wrM s d.addr d.val = s.mem.set a d.val by rw [wrM, ha, Int.toNat_natCast]]
   repeat' (first | refine goR rfl ?_ | refine goS rfl ?_ | refine tret1 rfl ?_ | refine tretN rfl ?_ | refine gY rfl rfl ?_ | refine gN rfl rfl ?_ | refine qT rfl rfl ?_ | refine qF rfl rfl ?_ | refine cA rfl (by rw [hP, hG]; exact c1) rfl ?_ | refine lT (tl_ixo (m := k) rfl rfl rfl (by omega)) ?_ | refine lT (tl_ldE rfl rfl hxt rfl) ?_ | refine tr_storeE rfl rfl hxt rfl rfl rfl rfl rfl rfl ?_ | refine cA rfl (by rw [hP, hG]; exact c2) rfl ?_ | refine lT (tl_ixo (m := a) rfl rfl ha (by omega)) ?_ | refine lT (tl_ldE rfl rfl hag rfl) ?_ | refine tr_storeE rfl rfl hag rfl rfl rfl rfl rfl rfl ?_ | ((first | refine gS rfl (fun h => ?_) (fun h => ?_) | refine ts_cond rfl (fun h => ?_) (fun h => ?_)) <;> (try simp only [bs0, beq_iff_eq] at h) <;> try (exfalso; omega; done)) | fail)
   refine twret rfl ?_ ⟨rfl, rfl⟩
   (refine w_ren [(0, 0), (1, 1), (2, 2)] rfl (by rw [hp]; decide) rfl ?_ ?_ <;> repeat' (first | exact .nil | exact .f _ rfl | exact .s _ _ _ _ _ _ rfl | exact .p _ _ _ rfl | exact .rows _ _ _ | exact .iter _ _ | exact RenL.nil _ | refine RenL.cons ?_ ?_ | refine .cells _ _ _ ?_ | refine .cons _ _ _ _ rfl ?_ ?_ | refine .cons _ _ _ _ _ rfl rfl ?_ ?_ | refine .rowsE ?_ | refine .sE rfl ?_ | exact .m _ _ rfl | refine .fE rfl ?_ | exact rnT_ok rfl | exact RenO.mB _ | exact RenO.mB [] | fail))
   all_goals first | rfl | exact (List.length_set ..).symm | exact List.length_set .. | exact List.map_set.symm | exact List.map_set | (rw [List.map_set]; done) | skip
  rw [if_neg k3]
  by_cases k4 : d.kind = 4
  ·rw [if_pos k4]
   obtain ⟨a, ha, hal, hag⟩ := hrd (.inr (.inr k4))
   have c4 := c4 (rdM s d.addr)
   generalize swapW p k x (rdM s d.addr) = w at c4
   obtain ⟨y2, v2, b2⟩ := w
   cases b2
   ·simp only [Bool.false_eq_true, if_false]
    repeat' (first | refine goR rfl ?_ | refine goS rfl ?_ | refine tret1 rfl ?_ | refine tretN rfl ?_ | refine gY rfl rfl ?_ | refine gN rfl rfl ?_ | refine qT rfl rfl ?_ | refine qF rfl rfl ?_ | refine cA rfl (by rw [hP, hG]; exact c1) rfl ?_ | refine lT (tl_ixo (m := k) rfl rfl rfl (by omega)) ?_ | refine lT (tl_ldE rfl rfl hxt rfl) ?_ | refine tr_storeE rfl rfl hxt rfl rfl rfl rfl rfl rfl ?_ | refine cA rfl (by rw [hP, hG]; exact c4) rfl ?_ | refine lT (tl_ixo (m := a) rfl rfl ha (by omega)) ?_ | refine lT (tl_ldE rfl rfl hag rfl) ?_ | refine tr_storeE rfl rfl hag rfl rfl rfl rfl rfl rfl ?_ | ((first | refine gS rfl (fun h => ?_) (fun h => ?_) | refine ts_cond rfl (fun h => ?_) (fun h => ?_)) <;> (try simp only [bs0, beq_iff_eq] at h) <;> try (exfalso; omega; done)) | fail)
    refine twret rfl ?_ ⟨rfl, rfl⟩
    (refine w_ren [(0, 0), (1, 1), (2, 2)] rfl (by rw [hp]; decide) rfl ?_ ?_ <;> repeat' (first | exact .nil | exact .f _ rfl | exact .s _ _ _ _ _ _ rfl | exact .p _ _ _ rfl | exact .rows _ _ _ | exact .iter _ _ | exact RenL.nil _ | refine RenL.cons ?_ ?_ | refine .cells _ _ _ ?_ | refine .cons _ _ _ _ rfl ?_ ?_ | refine .cons _ _ _ _ _ rfl rfl ?_ ?_ | refine .rowsE ?_ | refine .sE rfl ?_ | exact .m _ _ rfl | refine .fE rfl ?_ | exact rnT_ok rfl | exact RenO.mB _ | exact RenO.mB [] | fail))
    all_goals first | rfl | exact (List.length_set ..).symm | exact List.length_set .. | exact List.map_set.symm | exact List.map_set | (rw [List.map_set]; done) | skip
   ·simp only [if_true]
    rw [show wrM s d.addr v2 = s.mem.set a v2 by rw [wrM, ha, Int.toNat_natCast]]
    repeat' (first | refine goR rfl ?_ | refine goS rfl ?_ | refine tret1 rfl ?_ | refine tretN rfl ?_ | refine gY rfl rfl ?_ | refine gN rfl rfl ?_ | refine qT rfl rfl ?_ | refine qF rfl rfl ?_ | refine cA rfl (by rw [hP, hG]; exact c1) rfl ?_ | refine lT (tl_ixo (m := k) rfl rfl rfl (by omega)) ?_ | refine lT (tl_ldE rfl rfl hxt rfl) ?_ | refine tr_storeE rfl rfl hxt rfl rfl rfl rfl rfl rfl ?_ | refine cA rfl (by rw [hP, hG]; exact c4) rfl ?_ | refine lT (tl_ixo (m := a) rfl rfl ha (by omega)) ?_ | refine lT (tl_ldE rfl rfl hag rfl) ?_ | refine tr_storeE rfl rfl hag rfl rfl rfl rfl rfl rfl ?_ | ((first | refine gS rfl (fun h => ?_) (fun h => ?_) | refine ts_cond rfl (fun h => ?_) (fun h => ?_)) <;> (try simp only [bs0, beq_iff_eq] at h) <;> try (exfalso; omega; done)) | fail)
    refine twret rfl ?_ ⟨rfl, rfl⟩
    (refine w_ren [(0, 0), (1, 1), (2, 2)] rfl (by rw [hp]; decide) rfl ?_ ?_ <;> repeat' (first | exact .nil | exact .f _ rfl | exact .s _ _ _ _ _ _ rfl | exact .p _ _ _ rfl | exact .rows _ _ _ | exact .iter _ _ | exact RenL.nil _ | refine RenL.cons ?_ ?_ | refine .cells _ _ _ ?_ | refine .cons _ _ _ _ rfl ?_ ?_ | refine .cons _ _ _ _ _ rfl rfl ?_ ?_ | refine .rowsE ?_ | refine .sE rfl ?_ | exact .m _ _ rfl | refine .fE rfl ?_ | exact rnT_ok rfl | exact RenO.mB _ | exact RenO.mB [] | fail))
    all_goals first | rfl | exact (List.length_set ..).symm | exact List.length_set .. | exact List.map_set.symm | exact List.map_set | (rw [List.map_set]; done) | skip
  rw [if_neg k4]
  repeat' (first | refine goR rfl ?_ | refine goS rfl ?_ | refine tret1 rfl ?_ | refine tretN rfl ?_ | refine gY rfl rfl ?_ | refine gN rfl rfl ?_ | refine qT rfl rfl ?_ | refine qF rfl rfl ?_ | refine cA rfl (by rw [hP, hG]; exact c1) rfl ?_ | refine lT (tl_ixo (m := k) rfl rfl rfl (by omega)) ?_ | refine lT (tl_ldE rfl rfl hxt rfl) ?_ | refine tr_storeE rfl rfl hxt rfl rfl rfl rfl rfl rfl ?_ | refine cA rfl (by rw [hP, hG]; exact c2) rfl ?_ | ((first | refine gS rfl (fun h => ?_) (fun h => ?_) | refine ts_cond rfl (fun h => ?_) (fun h => ?_)) <;> (try simp only [bs0, beq_iff_eq] at h) <;> try (exfalso; omega; done)) | fail)
  refine twret rfl ?_ ⟨rfl, rfl⟩
  (refine w_ren [(0, 0), (1, 1), (2, 2)] rfl (by rw [hp]; decide) rfl ?_ ?_ <;> repeat' (first | exact .nil | exact .f _ rfl | exact .s _ _ _ _ _ _ rfl | exact .p _ _ _ rfl | exact .rows _ _ _ | exact .iter _ _ | exact RenL.nil _ | refine RenL.cons ?_ ?_ | refine .cells _ _ _ ?_ | refine .cons _ _ _ _ rfl ?_ ?_ | refine .cons _ _ _ _ _ rfl rfl ?_ ?_ | refine .rowsE ?_ | refine .sE rfl ?_ | exact .m _ _ rfl | refine .fE rfl ?_ | exact rnT_ok rfl | exact RenO.mB _ | exact RenO.mB [] | fail))
  all_goals first | rfl | exact (List.length_set ..).symm | exact List.length_set .. | exact List.map_set.symm | exact List.map_set | (rw [List.map_set]; done) | skip
 ·rw [show scW p s t = (s, false) by
   unfold scW
   split
   ·rw [List.getElem?_eq_none (by omega)]
   ·rfl]
  repeat' (first | refine goR rfl ?_ | refine goS rfl ?_ | refine tret1 rfl ?_ | refine tretN rfl ?_ | refine gY rfl rfl ?_ | refine gN rfl rfl ?_ | refine qT rfl rfl ?_ | refine qF rfl rfl ?_ | ((first | refine gS rfl (fun h => ?_) (fun h => ?_) | refine ts_cond rfl (fun h => ?_) (fun h => ?_)) <;> (try simp only [bs0, beq_iff_eq] at h) <;> try (exfalso; omega; done)) | fail)
  all_goals
   refine twret rfl ?_ ⟨rfl, rfl⟩
   (refine w_ren [(0, 0), (1, 1), (2, 2)] rfl (by rw [hp]; decide) rfl ?_ ?_ <;> repeat' (first | exact .nil | exact .f _ rfl | exact .s _ _ _ _ _ _ rfl | exact .p _ _ _ rfl | exact .rows _ _ _ | exact .iter _ _ | exact RenL.nil _ | refine RenL.cons ?_ ?_ | refine .cells _ _ _ ?_ | refine .cons _ _ _ _ rfl ?_ ?_ | refine .cons _ _ _ _ _ rfl rfl ?_ ?_ | refine .rowsE ?_ | refine .sE rfl ?_ | exact .m _ _ rfl | refine .fE rfl ?_ | exact rnT_ok rfl | exact RenO.mB _ | exact RenO.mB [] | fail))
   all_goals first | rfl | exact (List.length_set ..).symm | exact List.length_set .. | exact List.map_set.symm | exact List.map_set | (rw [List.map_set]; done) | skip
theorem refStart_own (p : Prg) (c1 : p.syms.length ≤ 64) (c3 : ∀ s ∈ p.syms, 1 ≤ s.size ∧ s.size ≤ 64 ∧ (s.init.length : Int) ≤ s.size) : TC prog G 43 [.agg (cPrg p)] ⟨[], 0⟩ [] (fun r σ' => r = .s 0 1 0 (startF p.syms).length true ∧ σ' = ⟨[(0, .rows 1 ((startF p.syms).map fun n => [tI n]) 2)], 1⟩) := by
 refine TC.at mixedOk F43 rfl fun C hP hG hp => goF ?_; simp only [F43, targEnv, Nat.zero_add, Nat.reduceAdd]
 repeat' (first | refine goR rfl ?_ | refine goS rfl ?_ | refine tret1 rfl ?_ | refine tretN rfl ?_ | refine gY rfl rfl ?_ | refine gN rfl rfl ?_ | refine qT rfl rfl ?_ | refine qF rfl rfl ?_ | fail)
 refine loopS (fun m env σ => ∃ a b, p.syms = a ++ b ∧ m = b.length ∧ env = [(1, .p 0 0), (3, .s 1 1 0 (startF a).length true), (4, tI a.length)] ∧ σ = ⟨[(0, .cells (cPrg p) 28), (1, .rows 1 ((startF a).map fun n => [tI n]) 2)], 2⟩) p.syms.length
  ((w_virt (d := 3) 1 2 rfl).trans ?_) ⟨[], p.syms, rfl, rfl, rfl, rfl⟩ ?_
 ·(refine w_ren [(0, 0), (1, 1)] rfl (by rw [hp]; decide) rfl ?_ ?_ <;> repeat' (first | exact .nil | exact .f _ rfl | exact .s _ _ _ _ _ _ rfl | exact .p _ _ _ rfl | exact .rows _ _ _ | exact .iter _ _ | exact RenL.nil _ | refine RenL.cons ?_ ?_ | refine .cells _ _ _ ?_ | refine .cons _ _ _ _ rfl ?_ ?_ | refine .cons _ _ _ _ _ rfl rfl ?_ ?_ | refine .rowsE ?_ | refine .sE rfl ?_ | exact .m _ _ rfl | refine .fE rfl ?_ | exact rnT_ok rfl | exact RenO.mB _ | exact RenO.mB [] | fail))
 rintro m env σ ⟨a, b, e, rfl, rfl, rfl⟩
 have hla : p.syms.length = a.length + b.length := by rw [e, lA]
 have hsl := start_len a (fun s hs => c3 s (by rw [e]; exact List.mem_append_left _ hs))
 cases b with
 | nil =>
  rw [List.length_nil] at hla
  rw [List.append_nil] at e
  repeat' (first | refine goR rfl ?_ | refine goS rfl ?_ | refine tret1 rfl ?_ | refine tretN rfl ?_ | refine gY rfl rfl ?_ | refine gN rfl rfl ?_ | refine qT rfl rfl ?_ | refine qF rfl rfl ?_ | refine qF rfl (dF (by rw [lM]; omega)) ?_ | fail)
  rw [e]
  refine twret rfl ?_ ⟨rfl, rfl⟩
  (refine w_ren [(0, 1)] rfl (by rw [hp]; decide) rfl ?_ ?_ <;> repeat' (first | exact .nil | exact .f _ rfl | exact .s _ _ _ _ _ _ rfl | exact .p _ _ _ rfl | exact .rows _ _ _ | exact .iter _ _ | exact RenL.nil _ | refine RenL.cons ?_ ?_ | refine .cells _ _ _ ?_ | refine .cons _ _ _ _ rfl ?_ ?_ | refine .cons _ _ _ _ _ rfl rfl ?_ ?_ | refine .rowsE ?_ | refine .sE rfl ?_ | exact .m _ _ rfl | refine .fE rfl ?_ | exact rnT_ok rfl | exact RenO.mB _ | exact RenO.mB [] | fail))
 | cons x b =>
  have hx : p.syms[a.length]? = some x := by rw [e]; exact ix
  simp only [List.length_cons] at hla
  obtain ⟨g1, g2, g3⟩ := c3 x (by rw [e]; simp)
  have hcl := cellsS_len x g3
  repeat' (first | refine goR rfl ?_ | refine goS rfl ?_ | refine tret1 rfl ?_ | refine tretN rfl ?_ | refine gY rfl rfl ?_ | refine gN rfl rfl ?_ | refine qT rfl rfl ?_ | refine qF rfl rfl ?_ | refine qT rfl (dT (by rw [lM]; omega)) ?_ | fail)
  refine loopS (fun m env σ => ∃ k : Nat, (k : Int) ≤ x.size ∧ m = (x.size - k).toNat ∧ env = [(1, .p 0 0), (3, .s 1 1 0 (startF a ++ (cellsS x).take k).length true), (4, tI a.length), (5, tI k)] ∧
   σ = ⟨[(0, .cells (cPrg p) 28), (1, .rows 1 ((startF a ++ (cellsS x).take k).map fun n => [tI n]) 2)], 2⟩) x.size.toNat ?_ ⟨0, by omega, by omega, rfl, rfl⟩ ?_
  ·(refine w_ren [(0, 0), (1, 1)] rfl (by rw [hp]; decide) rfl ?_ ?_ <;> repeat' (first | exact .nil | exact .f _ rfl | exact .s _ _ _ _ _ _ rfl | exact .p _ _ _ rfl | exact .rows _ _ _ | exact .iter _ _ | exact RenL.nil _ | refine RenL.cons ?_ ?_ | refine .cells _ _ _ ?_ | refine .cons _ _ _ _ rfl ?_ ?_ | refine .cons _ _ _ _ _ rfl rfl ?_ ?_ | refine .rowsE ?_ | refine .sE rfl ?_ | exact .m _ _ rfl | refine .fE rfl ?_ | exact rnT_ok rfl | exact RenO.mB _ | exact RenO.mB [] | fail))
   all_goals simp
  rintro m env σ ⟨k, hk, rfl, rfl, rfl⟩
  have hxi : (x.init.map fun n => [tI n]).length = x.init.length := lM ..
  have htk : ((cellsS x).take k).length = k := by rw [List.length_take]; omega
  have hll : (startF a ++ (cellsS x).take k).length = (startF a).length + k := by rw [lA, htk]
  by_cases hlt : (k : Int) < x.size
  ·have hg := cellsS_get x k g3 hlt
   by_cases hin : k < x.init.length
   ·have hi : x.init[k]? = some x.init[k] := List.getElem?_eq_getElem hin
    rw [dif_pos hin] at hg
    generalize x.init[k] = v at hi hg
    repeat' (first | refine goR rfl ?_ | refine goS rfl ?_ | refine tret1 rfl ?_ | refine tretN rfl ?_ | refine gY rfl rfl ?_ | refine gN rfl rfl ?_ | refine qT rfl rfl ?_ | refine qF rfl rfl ?_ | refine lT (tl_ixm rfl rfl rfl hx) ?_ | refine qT rfl (dT (by omega)) ?_ | refine lT (tl_ixm rfl rfl rfl hi) ?_ | refine tr_append rfl rfl (by rw [lM]) (.inr (.inr ⟨_, _, _, _, rfl, rfl, rfl⟩)) (by simp only [List.length_cons, List.length_nil]; omega) rfl ?_ | fail)
    refine again (m' := (x.size - (k + 1 : Nat)).toNat) (by omega) ?_ ⟨k + 1, by omega, rfl, rfl, rfl⟩
    (refine w_ren [(0, 0), (1, 3)] rfl (by rw [hp]; decide) rfl ?_ ?_ <;> repeat' (first | exact .nil | exact .f _ rfl | exact .s _ _ _ _ _ _ rfl | exact .p _ _ _ rfl | exact .rows _ _ _ | exact .iter _ _ | exact RenL.nil _ | refine RenL.cons ?_ ?_ | refine .cells _ _ _ ?_ | refine .cons _ _ _ _ rfl ?_ ?_ | refine .cons _ _ _ _ _ rfl rfl ?_ ?_ | refine .rowsE ?_ | refine .sE rfl ?_ | exact .m _ _ rfl | refine .fE rfl ?_ | exact rnT_ok rfl | exact RenO.mB _ | exact RenO.mB [] | fail))
    ·rw [hg]; simp only [lA, List.length_cons, List.length_nil]; omega
    ·rw [w64 (by omega)]; rfl
    ·rw [hg]; simp [toTV]
   ·rw [dif_neg hin] at hg
    repeat' (first | refine goR rfl ?_ | refine goS rfl ?_ | refine tret1 rfl ?_ | refine tretN rfl ?_ | refine gY rfl rfl ?_ | refine gN rfl rfl ?_ | refine qT rfl rfl ?_ | refine qF rfl rfl ?_ | refine lT (tl_ixm rfl rfl rfl hx) ?_ | refine qT rfl (dT (by omega)) ?_ | refine qF rfl (dF (by omega)) ?_ | refine tr_append rfl rfl (by rw [lM]) (.inr (.inr ⟨_, _, _, _, rfl, rfl, rfl⟩)) (by simp only [List.length_cons, List.length_nil]; omega) rfl ?_ | fail)
    refine again (m' := (x.size - (k + 1 : Nat)).toNat) (by omega) ?_ ⟨k + 1, by omega, rfl, rfl, rfl⟩
    (refine w_ren [(0, 0), (1, 3)] rfl (by rw [hp]; decide) rfl ?_ ?_ <;> repeat' (first | exact .nil | exact .f _ rfl | exact .s _ _ _ _ _ _ rfl | exact .p _ _ _ rfl | exact .rows _ _ _ | exact .iter _ _ | exact RenL.nil _ | refine RenL.cons ?_ ?_ | refine .cells _ _ _ ?_ | refine .cons _ _ _ _ rfl ?_ ?_ | refine .cons _ _ _ _ _ rfl rfl ?_ ?_ | refine .rowsE ?_ | refine .sE rfl ?_ | exact .m _ _ rfl | refine .fE rfl ?_ | exact rnT_ok rfl | exact RenO.mB _ | exact RenO.mB [] | fail))
    ·rw [hg]; simp only [lA, List.length_cons, List.length_nil]; omega
    ·rw [w64 (by omega)]; rfl
    ·rw [hg]; simp [toTV]
  ·have hke : (k : Int) = x.size := by omega
   have hfull : (cellsS x).take k = cellsS x := List.take_of_length_le (by omega)
   repeat' (first | refine goR rfl ?_ | refine goS rfl ?_ | refine tret1 rfl ?_ | refine tretN rfl ?_ | refine gY rfl rfl ?_ | refine gN rfl rfl ?_ | refine qT rfl rfl ?_ | refine qF rfl rfl ?_ | refine lT (tl_ixm rfl rfl rfl hx) ?_ | refine qF rfl (dF (by omega)) ?_ | fail)
   refine again (m' := b.length) (Nat.lt_succ_self _) ?_ ⟨a ++ [x], b, by rw [e]; simp, rfl, rfl, rfl⟩
   (refine w_ren [(0, 0), (1, 1)] rfl (by rw [hp]; decide) rfl ?_ ?_ <;> repeat' (first | exact .nil | exact .f _ rfl | exact .s _ _ _ _ _ _ rfl | exact .p _ _ _ rfl | exact .rows _ _ _ | exact .iter _ _ | exact RenL.nil _ | refine RenL.cons ?_ ?_ | refine .cells _ _ _ ?_ | refine .cons _ _ _ _ rfl ?_ ?_ | refine .cons _ _ _ _ _ rfl rfl ?_ ?_ | refine .rowsE ?_ | refine .sE rfl ?_ | exact .m _ _ rfl | refine .fE rfl ?_ | exact rnT_ok rfl | exact RenO.mB _ | exact RenO.mB [] | fail))
   all_goals first | (rw [w64 (by omega), lA, List.length_singleton]; rfl) | (rw [hfull, startF_def, startF_def, List.flatMap_append]; simp)
theorem begin_raw (p : Prg) (c1 : p.syms.length ≤ 64) (c2 : p.threads.length ≤ 64) (c3 : ∀ s ∈ p.syms, 1 ≤ s.size ∧ s.size ≤ 64 ∧ (s.init.length : Int) ≤ s.size) : TC prog G 15 [.agg (cPrg p), tI 0] ⟨[], 0⟩ [] (fun r σ' => r = .agg [.s 0 1 0 (startF p.syms).length true, .s 1 16 0 (((p.threads.map cTh).length : Nat) : Int).toNat true, .s 2 1 0 0 true, tI 0] ∧
  σ' = ⟨[(0, memT (start0 p)), (1, .rows 16 (List.replicate (((p.threads.map cTh).length : Nat) : Int).toNat (cThr zThr)) 58), (2, .rows 1 [] 103)], 3⟩) := by
 have e2 : (p.threads.map cTh).length = p.threads.length := lM ..
 have c4 := refStart_own (G := G) p c1 c3
 refine TC.at mixedOk F15 rfl fun C hP hG hp => goF ?_; simp only [F15, targEnv, Nat.zero_add, Nat.reduceAdd]
 repeat' (first | refine goR rfl ?_ | refine goS rfl ?_ | refine tret1 rfl ?_ | refine tretN rfl ?_ | refine gY rfl rfl ?_ | refine gN rfl rfl ?_ | refine qT rfl rfl ?_ | refine qF rfl rfl ?_ | refine tr_mcallB hP hG (c4) rfl [] rfl rfl rfl rfl rfl rfl ?_ | refine tr_makeR (ys := [.lst 2 []]) rfl rfl (.nil1 2) rfl (by omega) ?_ | refine tr_make rfl rfl rfl rfl (by omega) ?_ | fail)
 refine twret rfl ?_ ⟨rfl, rfl⟩
 (refine w_ren [(0, 4), (1, 2), (2, 3)] rfl (by rw [hp]; decide) rfl ?_ ?_ <;> repeat' (first | exact .nil | exact .f _ rfl | exact .s _ _ _ _ _ _ rfl | exact .p _ _ _ rfl | exact .rows _ _ _ | exact .iter _ _ | exact RenL.nil _ | refine RenL.cons ?_ ?_ | refine .cells _ _ _ ?_ | refine .cons _ _ _ _ rfl ?_ ?_ | refine .cons _ _ _ _ _ rfl rfl ?_ ?_ | refine .rowsE ?_ | refine .sE rfl ?_ | exact .m _ _ rfl | refine .fE rfl ?_ | exact rnT_ok rfl | exact RenO.mB _ | exact RenO.mB [] | fail))
theorem begin_own (p : Prg) (c1 : p.syms.length ≤ 64) (c2 : p.threads.length ≤ 64) (c3 : ∀ s ∈ p.syms, 1 ≤ s.size ∧ s.size ≤ 64 ∧ (s.init.length : Int) ≤ s.size) : TC prog G 15 [.agg (cPrg p), tI 0] ⟨[], 0⟩ [] (fun r σ' => r = .agg [.s 0 1 0 (start0 p).mem.length true, .s 1 16 0 (start0 p).thr.length true, .s 2 1 0 0 true, tI 0] ∧ σ' = ⟨[(0, memT (start0 p)), (1, thrT (start0 p)), (2, .rows 1 [] 103)], 3⟩) := by
 have := begin_raw (G := G) p c1 c2 c3
 have e : (((p.threads.map cTh).length : Nat) : Int).toNat = (start0 p).thr.length := by
  rw [Int.toNat_natCast, lM]
  exact (List.length_replicate ..).symm
 rw [e] at this
 have e2 : List.replicate (start0 p).thr.length (cThr zThr) = (start0 p).thr.map cThr := by
  show List.replicate (List.replicate _ _).length _ = (List.replicate _ _).map _
  rw [List.length_replicate, List.map_replicate]
 rw [e2] at this
 exact this
end
end Go.Proofs.YtnphhelbianjpaaGreatDoor
