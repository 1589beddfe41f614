/-
  Walks of functions of the program, and what the laws need of them.
-/
import Derived.Test.YteegjmglkkhoeaaGreatDoorRPJ
import Derived.Test.YteegjmglkkhoeaaGreatDoorRPQ
import Derived.Test.YteegjmglkkhoeaaGreatDoorRPL
import Derived.Test.YteegjmglkkhoeaaGreatDoorRPO
set_option linter.all false
set_option linter.unusedSimpArgs false
set_option linter.unusedVariables false
set_option linter.unnecessarySimpa false
namespace Go.Proofs.YteegjmglkkhoeaaGreatDoor
set_option maxRecDepth 20000
open Go Go.Proofs.YteegjmglkkhoeaaGreatDoor.V Go.Proofs
section
attribute [local irreducible] TwS TwR thenT inBlockT retT nextW localW loadedW swapW tsoW owW
variable {G : World → Prop}
set_option maxHeartbeats 20000000 in
theorem owR_own (p : Prg) (ho : okP p) (hc : checkC p = 0) (s : State) (hq : stQ p s) (hbl : s.bufs.length = s.thr.length) (hl : s.thr.length ≤ 1000) (hs : ∀ l ∈ s.bufs, l.length ≤ 1000000 ∧ ∀ e ∈ l, 0 ≤ e.addr ∧ e.addr < s.mem.length) (hheld : heldQ p s) (t : Int) (f : Bool) :
  TC prog Tabs 25 [.agg (cPrg p), .p 0 0, .agg [tI t, tB f]] ⟨rfT s 0, 4⟩ [0] (fun v σ' => v = tB (owW p s t f).2 ∧ σ' = ⟨rfT (owW p s t f).1 0, 4⟩) := by
 by_cases ht : 0 ≤ t ∧ t < (s.thr.length : Int)
 ·obtain ⟨k, rfl⟩ : ∃ k : Nat, t = k := ⟨t.toNat, by omega⟩
  have hkl : k < s.thr.length := by omega
  have hx : s.thr[k]? = some s.thr[k] := List.getElem?_eq_getElem hkl
  generalize s.thr[k] = x at hx
  have hxt : (s.thr.map cThr)[k]? = some (cThr x) := by rw [List.getElem?_map, hx]; rfl
  have hkm : k < (s.thr.map cThr).length := by rw [lM]; exact hkl
  have hwk : IntKind.i64.wrap ((k : Int) + 1) = (k : Int) + 1 := w64 (by omega)
  have hshd : shutB s k = true ↔ (s.lock ≠ 0 ∧ s.lock ≠ (k : Int) + 1) := decide_eq_true_iff
  rw [owW_in hx]
  cases f with
  | true =>
   have c := flush_own (G := Tabs) s k (by omega) (fun l hl' => ⟨by have := (hs l hl').1; omega, (hs l hl').2⟩)
   rw [if_pos (by omega), Int.toNat_natCast] at c
   simp only [if_true]
   generalize flushW s k = w at *
   cases hsh : shutB s k
   all_goals
    rw [hsh] at hshd
    simp only [Bool.false_eq_true, false_iff, true_iff] at hshd
    simp only [Bool.false_eq_true, if_false, if_true]
    refine TC.at mixedOk F25 rfl fun C hP hG hp => goF ?_; simp only [F25, targEnv, Nat.zero_add, Nat.reduceAdd]
    repeat' (first | refine goR rfl ?_ | refine goS rfl ?_ | refine tret1 rfl ?_ | refine tretN rfl ?_ | refine gY rfl rfl ?_ | refine gN rfl rfl ?_ | refine qT rfl rfl ?_ | refine qF rfl rfl ?_ | refine tr_mcallX hP hG (c) rfl rfl rfl rfl rfl rfl rfl rfl rfl rfl rfl rfl ?_ | ((first | refine gS rfl (fun h => ?_) (fun h => ?_) | refine ts_cond rfl (fun h => ?_) (fun h => ?_)) <;> (try simp only [bs0, beq_iff_eq] at h) <;> try (exfalso; omega; done)) | fail)
    all_goals exact tretX 4 [0] rfl hp rfl rfl rfl rfl ⟨rfl, rfl⟩
  | false =>
   simp only [Bool.false_eq_true, if_false]
   have c1 := next_spec2 p ho hc k (zPh x)
   by_cases h4 : (nextW p k (zPh x)).kind = 4
   ·rw [if_pos h4]
    have hh := hheld k x hx
    obtain ⟨h1, h2⟩ := next_addr hc (t := k) (x := zPh x) (.inr (.inr h4))
    rw [← hq.len] at h2
    obtain ⟨a, ha⟩ : ∃ a : Nat, (nextW p k (zPh x)).addr = a := ⟨_, (Int.toNat_of_nonneg h1).symm⟩
    have hal : a < s.mem.length := by omega
    have c4 := swap_spec2 p ho hc k (zPh x) x.la
    have hlb : s.bufs[k]? = some s.bufs[k] := List.getElem?_eq_getElem (by omega)
    obtain ⟨q1, q2⟩ := hs _ (List.mem_of_getElem? hlb)
    have hbt : bufAt s k = s.bufs[k] := by rw [bufAt, List.getD_eq_getElem?_getD, hlb]; rfl
    have hlm : (s.bufs.map cBuf)[k]? = some (cBuf s.bufs[k]) := by rw [List.getElem?_map, hlb]; rfl
    have hkb : k < s.bufs.length := by omega
    generalize s.bufs[k] = l at hlb q1 q2 hlm hbt
    have hlc : (l.map cEntry).length = l.length := lM ..
    have d1 := fun G => seen_spec (G := G) s k l hlb (by omega) a hal
    by_cases p0 : x.ph = 0
    ·have e0 := lockedW_0 (p := p) (s := s) (t := k) p0
     rw [e0]
     clear e0 hh c4 d1
     generalize nextW p k (zPh x) = d at *
     obtain ⟨dk, da, dv⟩ := d
     simp only at h4
     subst h4
     cases hsh : shutB s k
     all_goals
      rw [hsh] at hshd
      simp only [Bool.false_eq_true, false_iff, true_iff] at hshd
      simp only [Bool.false_eq_true, if_false, if_true]
      refine TC.at mixedOk F25 rfl fun C hP hG hp => goF ?_; simp only [F25, targEnv, Nat.zero_add, Nat.reduceAdd]
      repeat' (first | refine goR rfl ?_ | refine goS rfl ?_ | refine tret1 rfl ?_ | refine tretN rfl ?_ | refine gY rfl rfl ?_ | refine gN rfl rfl ?_ | refine qT rfl rfl ?_ | refine qF rfl rfl ?_ | refine lT (tl_ixo rfl rfl rfl hkl) ?_ | refine lT (tl_ldE rfl rfl hxt rfl) ?_ | refine tr_storeE rfl rfl hxt rfl rfl rfl rfl rfl rfl ?_ | refine cA rfl (by rw [hP, hG]; exact c1) rfl ?_ | ((first | refine gS rfl (fun h => ?_) (fun h => ?_) | refine ts_cond rfl (fun h => ?_) (fun h => ?_)) <;> (try simp only [bs0, beq_iff_eq] at h) <;> try (exfalso; omega; done)) | fail)
      all_goals
       refine tretX 4 [0] rfl hp rfl rfl rfl rfl ⟨rfl, ?_⟩
       first | rfl | (rw [hwk]; simp only [rfT, memT, thrT, List.length_set, List.map_set] <;> rfl)
    have hlk := hh p0 h4
    have hsh : shutB s k = false := by
     cases hsh : shutB s k with
     | false => rfl
     | true => exact absurd hlk (hshd.1 hsh).2
    rw [hsh] at hshd ⊢
    simp only [Bool.false_eq_true, false_iff] at hshd
    simp only [Bool.false_eq_true, if_false]
    by_cases p1 : x.ph = 1
    ·have e0 := lockedW_1 (p := p) (s := s) (t := k) p1
     rw [ha] at e0
     rw [e0]
     clear e0 hh c4
     generalize seenW s k (a : Int) = v at *
     generalize nextW p k (zPh x) = d at *
     obtain ⟨dk, da, dv⟩ := d
     simp only at h4 ha
     subst h4 ha
     refine TC.at mixedOk F25 rfl fun C hP hG hp => goF ?_; simp only [F25, targEnv, Nat.zero_add, Nat.reduceAdd]
     repeat' (first | refine goR rfl ?_ | refine goS rfl ?_ | refine tret1 rfl ?_ | refine tretN rfl ?_ | refine gY rfl rfl ?_ | refine gN rfl rfl ?_ | refine qT rfl rfl ?_ | refine qF rfl rfl ?_ | refine lT (tl_ixo rfl rfl rfl hkl) ?_ | refine lT (tl_ldE rfl rfl hxt rfl) ?_ | refine tr_storeE rfl rfl hxt rfl rfl rfl rfl rfl rfl ?_ | refine tr_storeE rfl rfl (List.getElem?_set_self hkm) rfl rfl rfl rfl rfl rfl ?_ | refine cA rfl (by rw [hP, hG]; exact c1) rfl ?_ | refine tr_callV hP hG (d1 _) rfl (by (repeat' first | exact FzL.nil | refine FzL.cons ?_ ?_ | exact Fz.fr rfl | exact Fz.nil _ | exact Fz.s _ _ _ _ _ _ rfl (lM ..).symm | exact Fz.s _ _ _ _ _ _ rfl rfl | refine Fz.pL rfl ?_ | refine Fz.aggL ?_); first | done | fail) rfl ?_ | ((first | refine gS rfl (fun h => ?_) (fun h => ?_) | refine ts_cond rfl (fun h => ?_) (fun h => ?_)) <;> (try simp only [bs0, beq_iff_eq] at h) <;> try (exfalso; omega; done)) | fail)
     all_goals
      refine tretX 4 [0] rfl hp rfl rfl rfl rfl ⟨rfl, ?_⟩
      simp only [rfT, memT, thrT, List.length_set, List.map_set, List.set_set] <;> rfl
    by_cases p2 : x.ph = 2 ∧ (swapW p k (zPh x) x.la).2.2 = true
    ·have e0 := lockedW_2 (s := s) p2.1 p2.2
     rw [ha, hbt] at e0
     rw [e0]
     clear e0 hh d1
     generalize swapW p k (zPh x) x.la = w at *
     obtain ⟨y2, v2, b2⟩ := w
     obtain ⟨p2, rfl⟩ := p2
     simp only
     generalize nextW p k (zPh x) = d at *
     obtain ⟨dk, da, dv⟩ := d
     simp only at h4 ha
     subst h4 ha
     refine TC.at mixedOk F25 rfl fun C hP hG hp => goF ?_; simp only [F25, targEnv, Nat.zero_add, Nat.reduceAdd]
     repeat' (first | refine goR rfl ?_ | refine goS rfl ?_ | refine tret1 rfl ?_ | refine tretN rfl ?_ | refine gY rfl rfl ?_ | refine gN rfl rfl ?_ | refine qT rfl rfl ?_ | refine qF rfl rfl ?_ | refine lT (tl_ixo rfl rfl rfl hkl) ?_ | refine lT (tl_ldE rfl rfl hxt rfl) ?_ | refine tr_storeE rfl rfl hxt rfl rfl rfl rfl rfl rfl ?_ | refine cA rfl (by rw [hP, hG]; exact c1) rfl ?_ | refine cA rfl (by rw [hP, hG]; exact c4) rfl ?_ | refine tr_append0 rfl (.inl rfl) (by omega) rfl ?_ | refine tr_appF rfl rfl rfl (.inr (.inr ⟨_, _, _, _, rfl, rfl, rfl⟩)) (by simp only [List.length_cons, List.length_nil]; omega) rfl ?_ | refine lT (tl_ixo (m := k) rfl rfl rfl hkb) ?_ | refine lT (tl_ldE rfl rfl hlm rfl) ?_ | refine tr_storeE rfl rfl hlm rfl rfl rfl rfl rfl rfl ?_ | ((first | refine gS rfl (fun h => ?_) (fun h => ?_) | refine ts_cond rfl (fun h => ?_) (fun h => ?_)) <;> (try simp only [bs0, beq_iff_eq] at h) <;> try (exfalso; omega; done)) | fail)
     all_goals
      refine tretX 4 [0] rfl hp rfl rfl rfl rfl ⟨rfl, ?_⟩
      simp only [rfT, memT, thrT, List.length_set, List.map_set, cBuf, List.map_append] <;> rfl
    by_cases kn : l = []
    ·have e0 := lockedW_e p0 p1 p2 (show bufAt s k = [] by rw [hbt]; exact kn)
     rw [e0]
     subst kn
     clear e0 hh d1
     generalize swapW p k (zPh x) x.la = w at *
     obtain ⟨y2, v2, b2⟩ := w
     generalize nextW p k (zPh x) = d at *
     obtain ⟨dk, da, dv⟩ := d
     simp only at h4 ha p2
     subst h4 ha
     simp only
     cases b2
     all_goals
      simp only [Bool.false_eq_true, and_true, and_false, not_false_eq_true] at p2
      refine TC.at mixedOk F25 rfl fun C hP hG hp => goF ?_; simp only [F25, targEnv, Nat.zero_add, Nat.reduceAdd]
      repeat' (first | refine goR rfl ?_ | refine goS rfl ?_ | refine tret1 rfl ?_ | refine tretN rfl ?_ | refine gY rfl rfl ?_ | refine gN rfl rfl ?_ | refine qT rfl rfl ?_ | refine qF rfl rfl ?_ | refine lT (tl_ixo rfl rfl rfl hkl) ?_ | refine lT (tl_ldE rfl rfl hxt rfl) ?_ | refine tr_storeE rfl rfl hxt rfl rfl rfl rfl rfl rfl ?_ | refine cA rfl (by rw [hP, hG]; exact c1) rfl ?_ | refine cA rfl (by rw [hP, hG]; exact c4) rfl ?_ | refine lT (tl_ixo (m := k) rfl rfl rfl hkb) ?_ | refine lT (tl_ldE rfl rfl hlm rfl) ?_ | ((first | refine gS rfl (fun h => ?_) (fun h => ?_) | refine ts_cond rfl (fun h => ?_) (fun h => ?_)) <;> (try simp only [bs0, beq_iff_eq] at h) <;> try (exfalso; omega; done)) | fail)
      all_goals
       refine tretX 4 [0] rfl hp rfl rfl rfl rfl ⟨rfl, ?_⟩
       simp only [rfT, memT, thrT, List.length_set, List.map_set] <;> rfl
    ·have e0 := lockedW_w p0 p1 p2 (show bufAt s k ≠ [] by rw [hbt]; exact kn)
     rw [e0]
     clear e0 hh d1
     have kl : 0 < l.length := List.length_pos_iff.2 kn
     generalize swapW p k (zPh x) x.la = w at *
     obtain ⟨y2, v2, b2⟩ := w
     generalize nextW p k (zPh x) = d at *
     obtain ⟨dk, da, dv⟩ := d
     simp only at h4 ha p2
     subst h4 ha
     simp only
     cases b2
     all_goals
      simp only [Bool.false_eq_true, and_true, and_false, not_false_eq_true] at p2
      refine TC.at mixedOk F25 rfl fun C hP hG hp => goF ?_; simp only [F25, targEnv, Nat.zero_add, Nat.reduceAdd]
      repeat' (first | refine goR rfl ?_ | refine goS rfl ?_ | refine tret1 rfl ?_ | refine tretN rfl ?_ | refine gY rfl rfl ?_ | refine gN rfl rfl ?_ | refine qT rfl rfl ?_ | refine qF rfl rfl ?_ | refine lT (tl_ixo rfl rfl rfl hkl) ?_ | refine lT (tl_ldE rfl rfl hxt rfl) ?_ | refine tr_storeE rfl rfl hxt rfl rfl rfl rfl rfl rfl ?_ | refine cA rfl (by rw [hP, hG]; exact c1) rfl ?_ | refine cA rfl (by rw [hP, hG]; exact c4) rfl ?_ | refine lT (tl_ixo (m := k) rfl rfl rfl hkb) ?_ | refine lT (tl_ldE rfl rfl hlm rfl) ?_ | ((first | refine gS rfl (fun h => ?_) (fun h => ?_) | refine ts_cond rfl (fun h => ?_) (fun h => ?_)) <;> (try simp only [bs0, beq_iff_eq] at h) <;> try (exfalso; omega; done)) | fail)
      all_goals exact tretX 4 [0] rfl hp rfl rfl rfl rfl ⟨rfl, rfl⟩
   ·rw [if_neg h4]
    have c2 := next_spec2 p ho hc k x
    have c3 := tsoR_own p ho hc s hq hbl hl hs k false
    rw [tsoW_s hx] at c3
    have e1 : plainW p s k x (shutB s k) = if (nextW p k x).kind = 2 ∧ shutB s k = true then (s, false) else stepB p s k x := rfl
    rw [e1]
    generalize stepB p s k x = w at *
    generalize nextW p k (zPh x) = d at *
    generalize nextW p k x = d' at *
    obtain ⟨dk, da, dv⟩ := d
    obtain ⟨ek, ea, ev⟩ := d'
    simp only at h4 ⊢
    by_cases k2 : ek = 2
    ·subst k2
     cases hsh : shutB s k
     all_goals
      rw [hsh] at hshd
      simp only [Bool.false_eq_true, false_iff, true_iff] at hshd
      simp only [Bool.false_eq_true, and_true, and_false, if_false, if_true]
      refine TC.at mixedOk F25 rfl fun C hP hG hp => goF ?_; simp only [F25, targEnv, Nat.zero_add, Nat.reduceAdd]
      repeat' (first | refine goR rfl ?_ | refine goS rfl ?_ | refine tret1 rfl ?_ | refine tretN rfl ?_ | refine gY rfl rfl ?_ | refine gN rfl rfl ?_ | refine qT rfl rfl ?_ | refine qF rfl rfl ?_ | refine lT (tl_ixo rfl rfl rfl hkl) ?_ | refine lT (tl_ldE rfl rfl hxt rfl) ?_ | refine cA rfl (by rw [hP, hG]; exact c1) rfl ?_ | refine cA rfl (by rw [hP, hG]; exact c2) rfl ?_ | refine tr_mcallX hP hG (c3) rfl rfl rfl rfl rfl rfl rfl rfl rfl rfl rfl rfl ?_ | ((first | refine gS rfl (fun h => ?_) (fun h => ?_) | refine ts_cond rfl (fun h => ?_) (fun h => ?_)) <;> (try simp only [bs0, beq_iff_eq] at h) <;> try (exfalso; omega; done)) | fail)
      all_goals exact tretX 4 [0] rfl hp rfl rfl rfl rfl ⟨rfl, rfl⟩
    ·rw [if_neg (fun hc => k2 hc.1)]
     cases hsh : shutB s k
     all_goals
      rw [hsh] at hshd
      simp only [Bool.false_eq_true, false_iff, true_iff] at hshd
      refine TC.at mixedOk F25 rfl fun C hP hG hp => goF ?_; simp only [F25, targEnv, Nat.zero_add, Nat.reduceAdd]
      repeat' (first | refine goR rfl ?_ | refine goS rfl ?_ | refine tret1 rfl ?_ | refine tretN rfl ?_ | refine gY rfl rfl ?_ | refine gN rfl rfl ?_ | refine qT rfl rfl ?_ | refine qF rfl rfl ?_ | refine lT (tl_ixo rfl rfl rfl hkl) ?_ | refine lT (tl_ldE rfl rfl hxt rfl) ?_ | refine cA rfl (by rw [hP, hG]; exact c1) rfl ?_ | refine cA rfl (by rw [hP, hG]; exact c2) rfl ?_ | refine tr_mcallX hP hG (c3) rfl rfl rfl rfl rfl rfl rfl rfl rfl rfl rfl rfl ?_ | ((first | refine gS rfl (fun h => ?_) (fun h => ?_) | refine ts_cond rfl (fun h => ?_) (fun h => ?_)) <;> (try simp only [bs0, beq_iff_eq] at h) <;> try (exfalso; omega; done)) | fail)
      all_goals exact tretX 4 [0] rfl hp rfl rfl rfl rfl ⟨rfl, rfl⟩
 ·rw [owW_out ht]
  refine TC.at mixedOk F25 rfl fun C hP hG hp => goF ?_; simp only [F25, targEnv, Nat.zero_add, Nat.reduceAdd]
  repeat' (first | refine goR rfl ?_ | refine goS rfl ?_ | refine tret1 rfl ?_ | refine tretN rfl ?_ | refine gY rfl rfl ?_ | refine gN rfl rfl ?_ | refine qT rfl rfl ?_ | refine qF rfl rfl ?_ | ((first | refine gS rfl (fun h => ?_) (fun h => ?_) | refine ts_cond rfl (fun h => ?_) (fun h => ?_)) <;> (try simp only [bs0, beq_iff_eq] at h) <;> try (exfalso; omega; done)) | fail)
  all_goals exact tretX 4 [0] rfl hp rfl rfl rfl rfl ⟨rfl, rfl⟩
end
end Go.Proofs.YteegjmglkkhoeaaGreatDoor
namespace Go.Proofs.YteegjmglkkhoeaaGreatDoor
set_option maxRecDepth 20000
open Go Go.Proofs.YteegjmglkkhoeaaGreatDoor.V Go.Proofs
def invQ (p : Prg) (s0 : State) (l : List Pk) (m : Nat) (env : TEnv) (σ : TS) : Prop :=
 ∃ a b, l = a ++ b ∧ m = b.length ∧ env = [(1, .lst 2 (l.map cPick)), (2, .p 0 0), (6, .p 1 0), (7, .s 5 2 0 (colL p s0 a).length true), (8, tI a.length)] ∧
  σ = ⟨(0, .cells (cPrg p) 27) :: (rfT (sO p s0 a) 1 ++ [(5, .rows 2 ((colL p s0 a).map cPick) 48)]), 60⟩
theorem sO_snoc (p : Prg) (s0 : State) (a : List Pk) (x : Pk) : sO p s0 (a ++ [x]) = (owW p (sO p s0 a) x.1 x.2).1 := by rw [sO_app]; rfl
theorem sO_nil (p : Prg) (s0 : State) : sO p s0 [] = s0 := rfl
theorem fz_tup2 {σ : TS} {cs ds : List TV} (h : FzL σ cs ds) : Fz σ (.tup cs) (.tup ds) := .tup _ _ h.1 h.2
section
attribute [local irreducible] TwS TwR thenT inBlockT retT nextW localW loadedW swapW owW colL colS sO stepB flushW
set_option maxHeartbeats 20000000 in
theorem collapseR_spec (p : Prg) (ho : okP p) (hc : checkC p = 0) (hn : numsOk p) (hq : stQ p (start0 p)) (h3 : p.threads.length ≤ 3) (l : List Pk) (hl : l.length ≤ 100000) :
  Pure prog Tabs 9 [.agg (cPrg p), .lst 2 (l.map cPick)] (if (sO p (startT p) l).lock = 0 then .tup [.lst 2 ((colL p (startT p) l).map cPick), tB true] else .tup [.lst 2 [], tB false]) := by
 have hml : (l.map cPick).length = l.length := lM ..
 have hq0 := beginO_ok hq
 obtain ⟨k1, k2, k3, _⟩ := check_syms hc
 have c1 := check_spec2 p ho
 rw [hc] at c1
 have c2 := beginT_own (G := Tabs) p k1 k2 k3
 have hsA0 : ∀ a, (runO p (beginM p) a).1 = sO p (startT p) a := fun a => runO_s p a (beginM p)
 have hlk : (startT p).lock = 0 := rfl
 have hs00 := sO_nil p (startT p)
 generalize startT p = s0 at *
 refine Pure.at mixedOk F9 rfl fun C hP hG hp => goF ?_; simp only [F9, targEnv, Nat.zero_add, Nat.reduceAdd]
 repeat' (first | refine goR rfl ?_ | refine goS rfl ?_ | refine tret1 rfl ?_ | refine tretN rfl ?_ | refine gY rfl rfl ?_ | refine gN rfl rfl ?_ | refine qT rfl rfl ?_ | refine qF rfl rfl ?_ | refine cA rfl (by rw [hP, hG]; exact c1) rfl ?_ | refine tr_mcallX hP hG (c2) rfl rfl rfl rfl rfl rfl rfl rfl rfl rfl rfl rfl ?_ | ((first | refine gS rfl (fun h => ?_) (fun h => ?_) | refine ts_cond rfl (fun h => ?_) (fun h => ?_)) <;> (try simp only [bs0, beq_iff_eq] at h) <;> try (exfalso; first | omega | exact h rfl; done)) | fail)
 refine loopS (invQ p s0 l) l.length ((w_virt (d := 7) 2 48 rfl).trans (w_canon 60 [] [1, 2, 6, 7, 8] hp rfl rfl rfl rfl)) ⟨[], l, rfl, rfl, by rw [colL_nil]; rfl, by rw [colL_nil, hs00]; show _ = (⟨_ :: ((1, .cells [_, _, _, tI s0.lock] _) :: _), 60⟩ : TS); rw [hlk]; rfl⟩ ?_
 rintro m1 env σ ⟨a, b, e, rfl, rfl, rfl⟩
 have hla : l.length = a.length + b.length := by rw [e, lA]
 cases b with
 | nil =>
  rw [List.length_nil] at hla
  rw [List.append_nil] at e
  subst e
  by_cases hL : (sO p s0 l).lock = 0
  all_goals
   repeat' (first | refine goR rfl ?_ | refine goS rfl ?_ | refine tret1 rfl ?_ | refine tretN rfl ?_ | refine gY rfl rfl ?_ | refine gN rfl rfl ?_ | refine qT rfl rfl ?_ | refine qF rfl rfl ?_ | refine qF rfl (dF (by omega)) ?_ | ((first | refine gS rfl (fun h => ?_) (fun h => ?_) | refine ts_cond rfl (fun h => ?_) (fun h => ?_)) <;> (try simp only [bs0, beq_iff_eq] at h) <;> try (exfalso; omega; done)) | fail)
   all_goals
    first | rw [if_pos hL] | rw [if_neg hL]
    refine fz_tup2 ?_
    (repeat' first | exact FzL.nil | refine FzL.cons ?_ ?_ | exact Fz.fr rfl | exact Fz.nil _ | exact Fz.s _ _ _ _ _ _ rfl (lM ..).symm | exact Fz.s _ _ _ _ _ _ rfl rfl | refine Fz.pL rfl ?_ | refine Fz.aggL ?_); first | done | fail
 | cons x b =>
  have hx : l[a.length]? = some x := by rw [e]; exact ix
  simp only [List.length_cons] at hla
  have hlt : decide ((a.length : Int) < ((l.map cPick).length : Int)) = true := dT (by omega)
  have hw1 : IntKind.i64.wrap ((a.length : Int) + 1) = ((a ++ [x]).length : Int) := by rw [w64 (by omega), lA]; rfl
  have hes := colL_snoc p a s0 x
  have hel := colL_len p a s0
  have hss := sO_snoc p s0 a x
  have hqa := hq0.run hc hn a
  have hok := hqa.okS hc (by omega) (by omega)
  have hst := hqa.st
  have hbl := hqa.blen
  have hth := hqa.thr
  have hfw := hqa.few
  have hhd := hqa.held
  rw [hsA0 a] at hok hst hbl hth hfw hhd
  generalize sO p s0 a = s1 at *
  have cC := refCopy_own (G := Tabs) s1 hok
  have cT := owR_own p ho hc s1 hst hbl (by omega) (fun l hl => ⟨by have := (hfw l hl).1; omega, (hfw l hl).2⟩) hhd x.1 x.2
  obtain ⟨es, hee⟩ : ∃ es, colL p s0 a = es := ⟨_, rfl⟩
  rw [hee] at hes hel
  rw [hee]
  clear hee
  obtain ⟨t, f⟩ := x
  simp only at cT hss
  cases hd : (owW p s1 t f).2 with
  | false =>
   rw [hd] at cT
   rw [colS_no hd, List.append_nil] at hes
   repeat' (first | refine goR rfl ?_ | refine goS rfl ?_ | refine tret1 rfl ?_ | refine tretN rfl ?_ | refine gY rfl rfl ?_ | refine gN rfl rfl ?_ | refine qT rfl rfl ?_ | refine qF rfl rfl ?_ | refine qT rfl hlt ?_ | refine lT (tl_ixm rfl rfl rfl hx) ?_ | (refine tr_mcallX hP hG (cC) rfl rfl rfl rfl rfl rfl rfl rfl rfl rfl rfl rfl ?_; refine tr_frzA 26 0 rfl rfl rfl (lM ..).symm ?_; refine tr_frzA 26 1 rfl rfl rfl (lM ..).symm ?_; refine tr_frzA 26 2 rfl rfl rfl (lM ..).symm ?_) | refine tr_mcallX hP hG (cT) rfl rfl rfl rfl rfl rfl rfl rfl rfl rfl rfl rfl ?_ | fail)
   refine again (m' := b.length) (Nat.lt_succ_self _) (w_canon 60 [] [1, 2, 6, 7, 8] hp rfl rfl rfl rfl) ⟨a ++ [(t, f)], b, by rw [e]; simp, rfl, ?_, ?_⟩
   ·first | (rw [hw1, hes]; done) | (rw [hw1, hes]; rfl)
   ·rw [hss, hes]; rfl
  | true =>
   obtain ⟨t0, t1⟩ := owW_done hd
   obtain ⟨k, rfl⟩ : ∃ k : Nat, t = k := ⟨t.toNat, by omega⟩
   have hkl : k < s1.thr.length := by omega
   have hy : s1.thr[k]? = some s1.thr[k] := List.getElem?_eq_getElem hkl
   generalize s1.thr[k] = y at hy
   have hlb : s1.bufs[k]? = some s1.bufs[k] := List.getElem?_eq_getElem (by omega)
   have hbt : bufAt s1 k = s1.bufs[k] := by rw [bufAt, List.getD_eq_getElem?_getD, hlb]; rfl
   generalize s1.bufs[k] = bl at hlb hbt
   have hlc : (bl.map cEntry).length = bl.length := lM ..
   have hwk : IntKind.i64.wrap ((k : Int) + 1) = (k : Int) + 1 := w64 (by omega)
   rw [hd] at cT
   cases f with
   | true =>
    rw [colS_f hy hd, hbt] at hes
    have hlk2 := owW_flock p s1 k
    have hfb := owW_fbuf hy hd
    rw [hbt] at hfb
    clear hd
    generalize (owW p s1 (k : Int) true).1 = s2 at *
    by_cases hK : s1.lock = (k : Int) + 1 ∧ y.ph = 3 ∧ bl.length = 1
    all_goals
     first | rw [if_pos hK, List.append_nil] at hes | rw [if_neg hK] at hes
     repeat' (first | refine goR rfl ?_ | refine goS rfl ?_ | refine tret1 rfl ?_ | refine tretN rfl ?_ | refine gY rfl rfl ?_ | refine gN rfl rfl ?_ | refine qT rfl rfl ?_ | refine qF rfl rfl ?_ | refine qT rfl hlt ?_ | refine lT (tl_ixm rfl rfl rfl hx) ?_ | refine lT (tl_ixm rfl rfl rfl hy) ?_ | refine lT (tl_ixm rfl rfl rfl hlb) ?_ | (refine tr_mcallX hP hG (cC) rfl rfl rfl rfl rfl rfl rfl rfl rfl rfl rfl rfl ?_; refine tr_frzA 26 0 rfl rfl rfl (lM ..).symm ?_; refine tr_frzA 26 1 rfl rfl rfl (lM ..).symm ?_; refine tr_frzA 26 2 rfl rfl rfl (lM ..).symm ?_) | refine tr_mcallX hP hG (cT) rfl rfl rfl rfl rfl rfl rfl rfl rfl rfl rfl rfl ?_ | refine tr_append rfl rfl (by rw [lM]) (.inr (.inr ⟨_, _, _, _, rfl, rfl, rfl⟩)) (by simp only [List.length_cons, List.length_nil]; omega) rfl ?_ | ((first | refine gS rfl (fun h => ?_) (fun h => ?_) | refine ts_cond rfl (fun h => ?_) (fun h => ?_)) <;> (try simp only [bs0, beq_iff_eq] at h) <;> try (exfalso; omega; done)) | fail)
     all_goals
      refine again (m' := b.length) (Nat.lt_succ_self _) (w_canon 60 [] [1, 2, 6, 7, 8] hp rfl rfl rfl rfl) ⟨a ++ [((k : Int), true)], b, by rw [e]; simp, rfl, ?_, ?_⟩
      ·first | (rw [hw1, hes]; done) | (rw [hw1, hes]; rfl) | (rw [hw1, hes, @lA _ es]; done) | (rw [hw1, hes, @lA _ es]; rfl)
      ·first | (rw [hss, hes]; done) | (rw [hss, hes]; rfl) | (rw [hss, hes, List.map_append]; done) | (rw [hss, hes, List.map_append]; rfl)
   | false =>
    rw [colS_s hd] at hes
    clear hd
    generalize (owW p s1 (k : Int) false).1 = s2 at *
    by_cases hK : (s1.lock = (k : Int) + 1 ∨ s2.lock = (k : Int) + 1) ∧ ¬ (s1.lock ≠ 0 ∧ s2.lock = 0)
    all_goals
     first | rw [if_pos hK, List.append_nil] at hes | rw [if_neg hK] at hes
     repeat' (first | refine goR rfl ?_ | refine goS rfl ?_ | refine tret1 rfl ?_ | refine tretN rfl ?_ | refine gY rfl rfl ?_ | refine gN rfl rfl ?_ | refine qT rfl rfl ?_ | refine qF rfl rfl ?_ | refine qT rfl hlt ?_ | refine lT (tl_ixm rfl rfl rfl hx) ?_ | (refine tr_mcallX hP hG (cC) rfl rfl rfl rfl rfl rfl rfl rfl rfl rfl rfl rfl ?_; refine tr_frzA 26 0 rfl rfl rfl (lM ..).symm ?_; refine tr_frzA 26 1 rfl rfl rfl (lM ..).symm ?_; refine tr_frzA 26 2 rfl rfl rfl (lM ..).symm ?_) | refine tr_mcallX hP hG (cT) rfl rfl rfl rfl rfl rfl rfl rfl rfl rfl rfl rfl ?_ | refine tr_append rfl rfl (by rw [lM]) (.inr (.inr ⟨_, _, _, _, rfl, rfl, rfl⟩)) (by simp only [List.length_cons, List.length_nil]; omega) rfl ?_ | ((first | refine gS rfl (fun h => ?_) (fun h => ?_) | refine ts_cond rfl (fun h => ?_) (fun h => ?_)) <;> (try simp only [bs0, beq_iff_eq] at h) <;> try (exfalso; omega; done)) | fail)
     all_goals
      refine again (m' := b.length) (Nat.lt_succ_self _) (w_canon 60 [] [1, 2, 6, 7, 8] hp rfl rfl rfl rfl) ⟨a ++ [((k : Int), false)], b, by rw [e]; simp, rfl, ?_, ?_⟩
      ·first | (rw [hw1, hes]; done) | (rw [hw1, hes]; rfl) | (rw [hw1, hes, @lA _ es]; done) | (rw [hw1, hes, @lA _ es]; rfl)
      ·first | (rw [hss, hes]; done) | (rw [hss, hes]; rfl) | (rw [hss, hes, List.map_append]; done) | (rw [hss, hes, List.map_append]; rfl)
end
end Go.Proofs.YteegjmglkkhoeaaGreatDoor
namespace Go.Proofs.YteegjmglkkhoeaaGreatDoor
set_option maxRecDepth 20000
open Go Go.Proofs.YteegjmglkkhoeaaGreatDoor.V Go.Proofs
section
attribute [local irreducible] TwS TwR thenT inBlockT retT nextW localW loadedW swapW Rg.push Rg.pop owW doO tsoW doR expL colL sO runO runT cntO cntT
set_option maxHeartbeats 20000000 in
theorem turnTells (l : List (List Act)) (hl : ∀ r ∈ l, ∀ a ∈ r, inR a.n) (picks : List Int) : Pure prog Tabs 3 [cActs l, rwI picks] (tB true) := by
 obtain ⟨p, ho, hc, hn, c1, h3, hq, _⟩ := book_sc l hl
 have hth : (p.threads.map cTh).length = p.threads.length := lM ..
 have c4 := picks_own (G := Tabs) picks (p.threads.map cTh).length 50 (by omega) (by decide)
 have hsl := picksF_len picks (p.threads.map cTh).length 50
 generalize picksF picks (p.threads.map cTh).length 50 = row at c4 hsl
 have hsm : (row.map cPick).length = row.length := lM ..
 have c6 := collapseR_spec p ho hc hn hq h3 row (by omega)
 have c7 := collapse_if p ho hc hn hq h3 row (by omega)
 have c8 := expand_spec p ho hc hn hq h3 row (by omega)
 have c9 := expandR_spec p ho hc hn hq h3 row (by omega)
 have c10 := samePicks_spec (G := Tabs) (expL p (startT p) row) (by have := expL_len p row (startT p); omega)
 have c11 := samePicks_spec (G := Tabs) (colL p (startT p) row) (by have := colL_len p row (startT p); omega)
 have c12 := samePicks_spec (G := Tabs) ([] : List Pk) (by decide)
 have c13 := aliveT_spec
 generalize expL p (startT p) row = k at *
 generalize colL p (startT p) row = k2 at *
 by_cases hL : (sO p (startT p) row).lock = 0
 ·rw [if_pos hL] at c6 c7
  refine Pure.at mixedOk F3 rfl fun C hP hG hp => goF ?_; simp only [F3, targEnv, Nat.zero_add, Nat.reduceAdd]
  repeat' (first | refine goR rfl ?_ | refine goS rfl ?_ | refine tret1 rfl ?_ | refine tretN rfl ?_ | refine gY rfl rfl ?_ | refine gN rfl rfl ?_ | refine qT rfl rfl ?_ | refine qF rfl rfl ?_ | refine cA rfl (by rw [hP]; exact c1 _) rfl ?_ | (refine tr_mcallX hP hG (c4) rfl rfl rfl rfl rfl rfl rfl rfl rfl rfl rfl rfl ?_; refine tr_frzS 17 rfl rfl hsm.symm ?_) | refine cA rfl (by rw [hP, hG]; exact c6) rfl ?_ | refine cA rfl (by rw [hP, hG]; exact c7) rfl ?_ | refine cA rfl (by rw [hP, hG]; exact c8) rfl ?_ | refine cA rfl (by rw [hP, hG]; exact c9) rfl ?_ | refine cA rfl (by rw [hP, hG]; exact c10) rfl ?_ | refine cA rfl (by rw [hP, hG]; exact c11) rfl ?_ | refine lT (tl_eqb (by rw [hP]; exact ut_bool) rfl rfl) ?_ | refine cA rfl (by rw [hP, hG]; exact c13) rfl ?_ | fail)
  exact .fr rfl
 ·rw [if_neg hL] at c6 c7
  refine Pure.at mixedOk F3 rfl fun C hP hG hp => goF ?_; simp only [F3, targEnv, Nat.zero_add, Nat.reduceAdd]
  repeat' (first | refine goR rfl ?_ | refine goS rfl ?_ | refine tret1 rfl ?_ | refine tretN rfl ?_ | refine gY rfl rfl ?_ | refine gN rfl rfl ?_ | refine qT rfl rfl ?_ | refine qF rfl rfl ?_ | refine cA rfl (by rw [hP]; exact c1 _) rfl ?_ | (refine tr_mcallX hP hG (c4) rfl rfl rfl rfl rfl rfl rfl rfl rfl rfl rfl rfl ?_; refine tr_frzS 17 rfl rfl hsm.symm ?_) | refine cA rfl (by rw [hP, hG]; exact c6) rfl ?_ | refine cA rfl (by rw [hP, hG]; exact c7) rfl ?_ | refine cA rfl (by rw [hP, hG]; exact c8) rfl ?_ | refine cA rfl (by rw [hP, hG]; exact c9) rfl ?_ | refine cA rfl (by rw [hP, hG]; exact c10) rfl ?_ | refine cA rfl (by rw [hP, hG]; exact c12) rfl ?_ | refine lT (tl_eqb (by rw [hP]; exact ut_bool) rfl rfl) ?_ | refine cA rfl (by rw [hP, hG]; exact c13) rfl ?_ | fail)
  exact .fr rfl
end
end Go.Proofs.YteegjmglkkhoeaaGreatDoor
