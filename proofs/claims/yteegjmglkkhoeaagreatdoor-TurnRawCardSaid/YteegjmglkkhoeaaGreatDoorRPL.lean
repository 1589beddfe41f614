/-
  Walks of functions of the program, and what the laws need of them.
-/
import Derived.Test.YteegjmglkkhoeaaGreatDoorRPK
import Derived.Test.YteegjmglkkhoeaaGreatDoorRPI
import Derived.Test.YteegjmglkkhoeaaGreatDoorRPJ
import Derived.Test.YteegjmglkkhoeaaGreatDoorRPE
set_option linter.all false
set_option linter.unusedSimpArgs false
set_option linter.unusedVariables false
set_option linter.unnecessarySimpa false
namespace Go.Proofs.YteegjmglkkhoeaaGreatDoor
set_option maxRecDepth 20000
open Go Go.Proofs.YteegjmglkkhoeaaGreatDoor.V Go.Proofs
abbrev Pk := Int × Bool
def sA (p : Prg) (s : State) (l : List Pk) : State := l.foldl (fun s x => (tsoW p s x.1 x.2).1) s
theorem runT_s (p : Prg) : ∀ (l : List Pk) (q : MS), (runT p q l).1 = sA p q.1 l
 | [], _ => rfl
 | x :: l, q => runT_s p l (mW p q x)
theorem sA_app (p : Prg) (s : State) (a b : List Pk) : sA p s (a ++ b) = sA p (sA p s a) b := List.foldl_append ..
theorem stepB_no' {p : Prg} {s : State} {t : Nat} {x : Thr} (h : (stepB p s t x).2 = false) : (stepB p s t x).1 = s := by
 unfold stepB stepS at h ⊢
 repeat' split
 all_goals first | rfl | (exfalso; revert h; repeat' split <;> simp_all)
def aE (s : State) : Prop := ∀ l ∈ s.bufs, ∀ e ∈ l, 0 ≤ e.addr ∧ e.addr < s.mem.length
section
variable {p : Prg} {s a : State} {k j : Nat} {y : Thr}
theorem bufAt_mem {e : Entry} (h : e ∈ bufAt s k) : ∃ l ∈ s.bufs, e ∈ l := by
 unfold bufAt at h
 rw [List.getD_eq_getElem?_getD] at h
 cases hg : s.bufs[k]? with
 | none => rw [hg] at h; cases h
 | some l => rw [hg] at h; exact ⟨l, List.mem_of_getElem? hg, h⟩
theorem aE.at (h : aE s) {e : Entry} (he : e ∈ bufAt s k) : 0 ≤ e.addr ∧ e.addr < s.mem.length := by
 obtain ⟨l, hl, hm⟩ := bufAt_mem he
 exact h l hl e hm
theorem aE.flush (h : aE s) (k : Nat) : aE (flushW s k).1 := by
 unfold flushW
 cases hb : bufAt s k with
 | nil => exact h
 | cons e r =>
  intro l hl e' he'
  rcases List.mem_or_eq_of_mem_set hl with h1 | rfl
  ·have := h l h1 e' he'
   exact ⟨this.1, by show _ < ((wrM s e.addr e.val).length : Int); rw [wrM_len]; exact this.2⟩
  ·have := h.at (k := k) (e := e') (by rw [hb]; exact List.mem_cons_of_mem _ he')
   exact ⟨this.1, by show _ < ((wrM s e.addr e.val).length : Int); rw [wrM_len]; exact this.2⟩
theorem aE.stepB (hc : checkC p = 0) (hl : s.mem.length = (startF p.syms).length) (h : aE s) {t : Nat} {x : Thr} : aE (stepB p s t x).1 := by
 have key : ∀ m : List Int, m.length = s.mem.length → ∀ l ∈ s.bufs, ∀ e ∈ l, 0 ≤ e.addr ∧ e.addr < (m.length : Int) := fun m hm l hl e he => by rw [hm]; exact h l hl e he
 by_cases h0 : (nextW p t x).kind = 0
 ·rw [stepB_0 h0]; exact h
 by_cases h2 : (nextW p t x).kind = 2
 ·rw [stepB_2 h2]; exact h
 by_cases h3 : (nextW p t x).kind = 3
 ·rw [stepB_3 h3]
  obtain ⟨g1, g2⟩ := next_addr hc (t := t) (x := x) (.inr (.inl h3))
  rw [← hl] at g2
  intro l hl e he
  rcases List.mem_or_eq_of_mem_set hl with h1 | rfl
  ·exact h l h1 e he
  ·rcases List.mem_append.1 he with he | he
   ·exact h.at he
   ·rw [List.mem_singleton.1 he]; exact ⟨g1, g2⟩
 by_cases h5 : ((nextW p t x).kind = 4 ∨ (nextW p t x).kind = 5) ∧ bufAt s t ≠ []
 ·rw [stepB_w h5.1 h5.2]; exact h
 by_cases h4 : (nextW p t x).kind = 4
 ·rw [stepB_4 h4 (Classical.byContradiction fun hb => h5 ⟨.inl h4, hb⟩)]
  refine key _ ?_
  split
  ·exact wrM_len ..
  ·rfl
 ·rw [stepB_5 h0 h2 h3 h4 (fun h => Classical.byContradiction fun hb => h5 ⟨.inr h, hb⟩)]; exact h
end
end Go.Proofs.YteegjmglkkhoeaaGreatDoor
namespace Go.Proofs.YteegjmglkkhoeaaGreatDoor
set_option maxRecDepth 20000
open Go Go.Proofs.YteegjmglkkhoeaaGreatDoor.V Go.Proofs
def sO (p : Prg) (s : State) (l : List Pk) : State := l.foldl (fun s x => (owW p s x.1 x.2).1) s
theorem runO_s (p : Prg) : ∀ (l : List Pk) (q : MS), (runO p q l).1 = sO p q.1 l
 | [], _ => rfl
 | x :: l, q => runO_s p l (oW p q x)
theorem sO_app (p : Prg) (s : State) (a b : List Pk) : sO p s (a ++ b) = sO p (sO p s a) b := List.foldl_append ..
def dnO (p : Prg) : State → List Pk → Prop
 | _, [] => True
 | s, x :: l => (owW p s x.1 x.2).2 = true ∧ dnO p (owW p s x.1 x.2).1 l
theorem dnO_app {p : Prg} : ∀ {a b : List Pk} {s : State}, dnO p s a → dnO p (sO p s a) b → dnO p s (a ++ b)
 | [], _, _, _, h => h
 | x :: a, b, s, h, k => ⟨h.1, dnO_app (a := a) h.2 k⟩
def expB (p : Prg) (s : State) (x : Pk) : Bool × Bool := match (if 0 ≤ x.1 then s.thr[x.1.toNat]? else none) with
 | some y => if x.2 = false ∧ (nextW p x.1 y).kind = 4 then (true, (swapW p x.1 y (rdM s (nextW p x.1 y).addr)).2.2) else (false, false)
 | none => (false, false)
def expS (p : Prg) (s : State) (x : Pk) : List Pk := if (tsoW p s x.1 x.2).2 = true then (if (expB p s x).2 = true then [x, x, x, (x.1, true), x] else if (expB p s x).1 = true then [x, x, x] else [x]) else []
def expL (p : Prg) : State → List Pk → List Pk
 | _, [] => []
 | s, x :: l => expS p s x ++ expL p (tsoW p s x.1 x.2).1 l
def colK (s s' : State) (x : Pk) : Bool := !((x.2 && decide (s.lock = x.1 + 1) && (decide ((s.thr.getD x.1.toNat zThr).ph = 3) && decide ((bufAt s x.1.toNat).length = 1))) ||
 (!x.2 && (decide (s.lock = x.1 + 1) || decide (s'.lock = x.1 + 1)) && !(!decide (s.lock = 0) && decide (s'.lock = 0))))
def colS (p : Prg) (s : State) (x : Pk) : List Pk := if (owW p s x.1 x.2).2 = true ∧ colK s (owW p s x.1 x.2).1 x = true then [x] else []
def colL (p : Prg) : State → List Pk → List Pk
 | _, [] => []
 | s, x :: l => colS p s x ++ colL p (owW p s x.1 x.2).1 l
theorem expL_app (p : Prg) : ∀ (a b : List Pk) (s : State), expL p s (a ++ b) = expL p s a ++ expL p (sA p s a) b
 | [], _, _ => rfl
 | x :: a, b, s => by
  show expS p s x ++ expL p _ (a ++ b) = (expS p s x ++ expL p _ a) ++ _
  rw [expL_app p a b, List.append_assoc]; rfl
theorem colL_app (p : Prg) : ∀ (a b : List Pk) (s : State), colL p s (a ++ b) = colL p s a ++ colL p (sO p s a) b
 | [], _, _ => rfl
 | x :: a, b, s => by
  show colS p s x ++ colL p _ (a ++ b) = (colS p s x ++ colL p _ a) ++ _
  rw [colL_app p a b, List.append_assoc]; rfl
theorem expS_len (p : Prg) (s : State) (x : Pk) : (expS p s x).length ≤ 5 := by
 unfold expS
 repeat' split
 all_goals simp
theorem expL_len (p : Prg) : ∀ (l : List Pk) (s : State), (expL p s l).length ≤ 5 * l.length
 | [], _ => Nat.le_refl _
 | x :: l, s => by
  have h1 := expS_len p s x
  have h2 := expL_len p l (tsoW p s x.1 x.2).1
  rw [expL, lA, List.length_cons]; omega
theorem colL_len (p : Prg) : ∀ (l : List Pk) (s : State), (colL p s l).length ≤ l.length
 | [], _ => Nat.le_refl _
 | x :: l, s => by
  have h1 : (colS p s x).length ≤ 1 := by unfold colS; split <;> simp
  have h2 := colL_len p l (owW p s x.1 x.2).1
  rw [colL, lA, List.length_cons]; omega
structure aS (p : Prg) (s : State) : Prop where
 len : s.mem.length = (startF p.syms).length
 bl : s.bufs.length = s.thr.length
 la : ∀ x ∈ s.thr, x.ph = 0 → x.la = 0
 held : heldQ p s
 lock : s.lock = 0
section
variable {p : Prg} {s : State} {k : Nat} {y : Thr}
theorem phB01 {i : Ins} {x : Thr} (h : phB i x = true) : x.ph = 0 ∨ x.ph = 1 := by
 unfold phB at h
 simp only [Bool.or_eq_true, Bool.and_eq_true, decide_eq_true_eq] at h
 rcases h with h | h
 ·exact .inl h
 ·exact .inr h.1
theorem kind4_ph {t : Int} (h : (nextW p t y).kind = 4) : y.ph = 0 := by
 unfold nextW at h
 cases hc : curI p t y with
 | none => rw [hc] at h; simp at h
 | some i =>
  rw [hc] at h
  simp only at h
  split at h
  ·rename_i hb
   rcases phB01 hb with h0 | h1
   ·exact h0
   ·unfold stepW at h
    split at h
    ·split at h
     ·simp at h
     ·first | (rw [if_pos h1] at h; simp at h; done) | (simp at h; done)
    ·split at h <;> simp at h
  ·simp at h
theorem zPh_id (h : y.ph = 0) (h' : y.la = 0) : zPh y = y := by
 obtain ⟨r0, r1, r2, r3, r4, r5, r6, r7, f, pc, ph, la, st⟩ := y
 simp only at h h'
 subst h h'
 rfl
theorem local_la {t : Int} (h : y.ph = 0 → y.la = 0) : (localW p t y).ph = 0 → (localW p t y).la = 0 := by
 unfold localW
 cases hc : curI p t y with
 | none => exact h
 | some i =>
  simp only
  split
  ·unfold localI
   split
   ·exact h
   split
   ·exact h
   split
   ·split
    ·exact fun _ => rfl
    ·exact h
   split
   ·intro h0
    have e1 : (doLocal i (tgtOf p t i) y).ph = y.ph := doLocal_ph ..
    have e2 : (doLocal i (tgtOf p t i) y).la = y.la := by
     unfold doLocal
     repeat' split
     all_goals rfl
    rw [e1] at h0
    rw [e2]
    exact h h0
   ·exact h
  ·exact h
theorem loaded_la {t v : Int} (h : y.ph = 0 → y.la = 0) : (loadedW p t y v).ph = 0 → (loadedW p t y v).la = 0 := by
 unfold loadedW
 cases hc : curI p t y with
 | none => exact h
 | some i =>
  simp only
  split
  ·unfold loadedI
   split
   ·intro h0; cases h0
   repeat' split
   all_goals exact h
  ·exact h
theorem swap_la {t v : Int} : (swapW p t (zPh y) v).1.ph = 0 ∧ (swapW p t (zPh y) v).1.la = 0 := by
 unfold swapW
 cases hc : curI p t (zPh y) with
 | none => exact ⟨rfl, rfl⟩
 | some i =>
  simp only
  split
  ·unfold swapI
   repeat' split
   all_goals exact ⟨rfl, rfl⟩
  ·exact ⟨rfl, rfl⟩
theorem aS.z (h : aS p s) (hx : s.thr[k]? = some y) (h4 : (nextW p k y).kind = 4) : zPh y = y := zPh_id (kind4_ph h4) (h.la y (List.mem_of_getElem? hx) (kind4_ph h4))
theorem aS.nz (h : aS p s) (hx : s.thr[k]? = some y) (h4 : (nextW p k y).kind ≠ 4) : (nextW p k (zPh y)).kind ≠ 4 := by
 intro hc
 by_cases h0 : y.ph = 0
 ·rw [zPh_id h0 (h.la y (List.mem_of_getElem? hx) h0)] at hc
  exact h4 hc
 ·have := h.held k y hx h0 hc
  rw [h.lock] at this
  omega
theorem aS.set {s' : State} (h : aS p s) {y' : Thr} (h1 : s'.mem.length = s.mem.length) (h2 : s'.bufs.length = s.bufs.length) (h3 : s'.thr = s.thr.set k y') (h4 : s'.lock = 0) (h5 : y'.ph = 0 → y'.la = 0) (h6 : y'.ph = 0 ∨ (nextW p k (zPh y')).kind ≠ 4) : aS p s' := by
 refine ⟨h1.trans h.len, by rw [h2, h3, List.length_set]; exact h.bl, by rw [h3]; exact set_in h.la h5 _, ?_, h4⟩
 exact h.held.set h3 (fun j _ hj => by rw [h.lock] at hj; omega) fun a b => by
  rcases h6 with h6 | h6
  ·exact absurd h6 a
  ·exact absurd b h6
theorem aS.flush (h : aS p s) (k : Nat) : aS p (flushW s k).1 := by
 obtain ⟨f1, f2, f3⟩ := flushW_thr s k
 have e : (flushW s k).1.mem.length = s.mem.length := by
  unfold flushW
  split
  ·rfl
  ·exact wrM_len ..
 exact ⟨e.trans h.len, by rw [f2, f1]; exact h.bl, by rw [f1]; exact h.la, fun j y hy => by rw [f3]; exact h.held j y (by rw [← hy, f1]), f3.trans h.lock⟩
theorem aS.stepB (h : aS p s) (hx : s.thr[k]? = some y) : aS p (stepB p s k y).1 := by
 have hla := h.la y (List.mem_of_getElem? hx)
 by_cases h4 : (nextW p k y).kind = 4
 ·by_cases hb : bufAt s k = []
  ·rw [stepB_4 h4 hb]
   refine h.set (k := k) ?_ rfl rfl h.lock ?_ (.inl ?_)
   ·simp only; split
    ·exact wrM_len ..
    ·rfl
   ·rw [← h.z hx h4]; exact fun _ => swap_la.2
   ·rw [← h.z hx h4]; exact swap_la.1
  ·rw [stepB_w (.inl h4) hb]; exact h
 have hz := h.nz hx h4
 by_cases h0 : (nextW p k y).kind = 0
 ·rw [stepB_0 h0]; exact h
 by_cases h2 : (nextW p k y).kind = 2
 ·rw [stepB_2 h2]; exact h.set rfl rfl rfl h.lock (loaded_la hla) (loaded_held hz)
 by_cases h3 : (nextW p k y).kind = 3
 ·rw [stepB_3 h3]; exact h.set rfl (List.length_set ..) rfl h.lock (local_la hla) (local_held hz)
 by_cases h5 : (nextW p k y).kind = 5 ∧ bufAt s k ≠ []
 ·rw [stepB_w (.inr h5.1) h5.2]; exact h
 ·rw [stepB_5 h0 h2 h3 h4 (fun h => Classical.byContradiction fun hc => h5 ⟨h, hc⟩)]
  exact h.set rfl rfl rfl h.lock (local_la hla) (local_held hz)
theorem aS.step (h : aS p s) (x : Pk) : aS p (tsoW p s x.1 x.2).1 := by
 obtain ⟨t, f⟩ := x
 by_cases ht : 0 ≤ t ∧ t < (s.thr.length : Int)
 ·obtain ⟨k, rfl⟩ : ∃ k : Nat, t = k := ⟨t.toNat, by omega⟩
  have hkl : k < s.thr.length := by omega
  have hx : s.thr[k]? = some s.thr[k] := List.getElem?_eq_getElem hkl
  cases f with
  | true => rw [tsoW_f hkl]; exact h.flush k
  | false => rw [tsoW_s hx]; exact h.stepB hx
 ·rw [tsoW_out ht]; exact h
end
def doneL (p : Prg) : State → List Pk → List Pk
 | _, [] => []
 | s, x :: l => (if (tsoW p s x.1 x.2).2 = true then [x] else []) ++ doneL p (tsoW p s x.1 x.2).1 l
theorem shut_free {s : State} (h : s.lock = 0) (t : Nat) : shutB s t = false := by unfold shutB; rw [h]; simp
theorem start_aS (p : Prg) : aS p (startT p) := by
 refine ⟨rfl, by show (List.replicate _ _).length = (List.replicate _ _).length; rw [List.length_replicate, List.length_replicate], fun x hx _ => by rw [(List.mem_replicate.1 hx).2]; rfl, fun t x hx h0 => ?_, rfl⟩
 have : x ∈ List.replicate p.threads.length zThr := List.mem_of_getElem? hx
 rw [(List.mem_replicate.1 this).2] at h0
 exact absurd rfl h0
end Go.Proofs.YteegjmglkkhoeaaGreatDoor
namespace Go.Proofs.YteegjmglkkhoeaaGreatDoor
set_option maxRecDepth 20000
open Go Go.Proofs.YteegjmglkkhoeaaGreatDoor.V Go.Proofs
section
variable {p : Prg} {s : State} {k : Nat} {y : Thr}
theorem get_set {l : List Thr} (hk : k < l.length) (y' : Thr) : (l.set k y')[k]? = some y' := List.getElem?_set_self hk
theorem shutB_own (h : s.lock = (k : Int) + 1) : shutB s k = false := by unfold shutB; rw [h]; simp
theorem owW_lk (hx : s.thr[k]? = some y) (h4 : (nextW p k (zPh y)).kind = 4) (hs : shutB s k = false) : owW p s (k : Int) false = lockedW p s k y := by
 rw [owW_in hx, if_neg (by simp), if_pos h4, if_neg (by rw [hs]; simp)]
theorem owW_fl (hx : s.thr[k]? = some y) (hs : shutB s k = false) : owW p s (k : Int) true = flushW s k := by
 rw [owW_in hx, if_pos rfl, if_neg (by rw [hs]; simp)]
theorem owW_pl (hx : s.thr[k]? = some y) (h4 : (nextW p k (zPh y)).kind ≠ 4) : owW p s (k : Int) false = plainW p s k y (shutB s k) := by
 rw [owW_in hx, if_neg (by simp), if_neg h4]
theorem expB_in (hx : s.thr[k]? = some y) (f : Bool) : expB p s ((k : Int), f) = if f = false ∧ (nextW p k y).kind = 4 then (true, (swapW p k y (rdM s (nextW p k y).addr)).2.2) else (false, false) := by
 unfold expB
 simp only
 rw [if_pos (by omega), Int.toNat_natCast, hx]
theorem block_n (h : aS p s) (hx : s.thr[k]? = some y) (h4 : (nextW p k y).kind = 4) (hb : bufAt s k = []) {z : Thr} {w : Int} (hw : swapW p k y (rdM s (nextW p k y).addr) = (z, w, false)) :
  dnO p s [(k, false), (k, false), (k, false)] ∧ sO p s [(k, false), (k, false), (k, false)] = { s with thr := s.thr.set k z } ∧
  colL p s [(k, false), (k, false), (k, false)] = [((k : Int), false)] := by
 have hkl : k < s.thr.length := (List.getElem?_eq_some_iff.1 hx).1
 have hz := h.z hx h4
 have h0 := kind4_ph h4
 obtain ⟨v, hv⟩ : ∃ v, v = rdM s (nextW p k y).addr := ⟨_, rfl⟩
 rw [← hv] at hw
 let s1 : State := { s with lock := (k : Int) + 1, thr := s.thr.set k { y with ph := 1 } }
 let s2 : State := { s with lock := (k : Int) + 1, thr := s.thr.set k { y with la := v, ph := 2 } }
 have e1 : owW p s (k : Int) false = (s1, true) := by rw [owW_lk hx (by rw [hz]; exact h4) (shut_free h.lock k), lockedW_0 h0]
 have hx1 : s1.thr[k]? = some { y with ph := 1 } := get_set hkl _
 have z1 : zPh { y with ph := 1 } = y := by rw [← hz]; rfl
 have e2 : owW p s1 (k : Int) false = (s2, true) := by
  rw [owW_lk hx1 (by rw [z1]; exact h4) (shutB_own rfl), lockedW_1 rfl, z1]
  have hsn : seenW s1 k (nextW p k y).addr = v := by
   show (lastE (bufAt s k) _).getD (rdM s _) = v
   rw [hb, hv]; rfl
  rw [hsn]
  show (({ s with lock := _, thr := (s.thr.set k _).set k _ } : State), true) = _
  rw [List.set_set]
 have hx2 : s2.thr[k]? = some { y with la := v, ph := 2 } := get_set hkl _
 have z2 : zPh { y with la := v, ph := 2 } = y := by rw [← hz]; rfl
 have e3 : owW p s2 (k : Int) false = ({ s with thr := s.thr.set k z }, true) := by
  rw [owW_lk hx2 (by rw [z2]; exact h4) (shutB_own rfl), lockedW_e (s := s2) (by simp) (by simp) (by rw [z2]; show ¬ (_ ∧ (swapW p k y v).2.2 = true); rw [hw]; simp) hb, z2]
  show (({ s with thr := (s.thr.set k _).set k (swapW p k y v).1, lock := 0 } : State), true) = _
  rw [List.set_set, hw, ← h.lock]
 refine ⟨⟨by rw [e1], by rw [e1, e2], by rw [e1, e2, e3], trivial⟩, ?_, ?_⟩
 ·show (owW p (owW p (owW p s k false).1 k false).1 k false).1 = _
  rw [e1, e2, e3]
 ·show colS p s _ ++ (colS p (owW p s k false).1 _ ++ (colS p (owW p (owW p s k false).1 k false).1 _ ++ [])) = _
  unfold colS
  simp only [e1, e2, e3]
  have hl := h.lock
  have k1 : colK s s1 (k, false) = false := by
   unfold colK; simp only [s1, hl]; simp <;> omega
  have k2 : colK s1 s2 (k, false) = false := by
   unfold colK; simp only [s1, s2]; simp <;> omega
  have k3 : colK s2 { s with thr := s.thr.set k z } (k, false) = true := by
   unfold colK; simp only [s2, hl]; simp <;> omega
  rw [k1, k2, k3]
  rfl
theorem bufs_set_nil (hk : k < s.bufs.length) (hb : bufAt s k = []) : s.bufs.set k [] = s.bufs := by
 refine List.ext_getElem? fun i => ?_
 by_cases hi : i = k
 ·subst hi
  rw [List.getElem?_set_self hk]
  unfold bufAt at hb
  rw [List.getD_eq_getElem?_getD, List.getElem?_eq_getElem hk] at hb
  rw [List.getElem?_eq_getElem hk]
  exact congrArg some hb.symm
 ·rw [List.getElem?_set_ne (fun h => hi h.symm)]
theorem block_w (h : aS p s) (hx : s.thr[k]? = some y) (h4 : (nextW p k y).kind = 4) (hb : bufAt s k = []) {z : Thr} {w : Int} (hw : swapW p k y (rdM s (nextW p k y).addr) = (z, w, true)) :
  dnO p s [(k, false), (k, false), (k, false), (k, true), (k, false)] ∧ sO p s [(k, false), (k, false), (k, false), (k, true), (k, false)] = { s with thr := s.thr.set k z, mem := wrM s (nextW p k y).addr w } ∧
  colL p s [(k, false), (k, false), (k, false), (k, true), (k, false)] = [((k : Int), false)] := by
 have hkl : k < s.thr.length := (List.getElem?_eq_some_iff.1 hx).1
 have hkb : k < s.bufs.length := by rw [h.bl]; exact hkl
 have hz := h.z hx h4
 have h0 := kind4_ph h4
 obtain ⟨a, ha⟩ : ∃ a, a = (nextW p k y).addr := ⟨_, rfl⟩
 obtain ⟨v, hv⟩ : ∃ v, v = rdM s (nextW p k y).addr := ⟨_, rfl⟩
 rw [← hv] at hw
 rw [← ha]
 let s1 : State := { s with lock := (k : Int) + 1, thr := s.thr.set k { y with ph := 1 } }
 let s2 : State := { s with lock := (k : Int) + 1, thr := s.thr.set k { y with la := v, ph := 2 } }
 let s3 : State := { s with lock := (k : Int) + 1, thr := s.thr.set k { y with la := v, ph := 3 }, bufs := s.bufs.set k [⟨a, w⟩] }
 let s4 : State := { s with lock := (k : Int) + 1, thr := s.thr.set k { y with la := v, ph := 3 }, mem := wrM s a w }
 have e1 : owW p s (k : Int) false = (s1, true) := by rw [owW_lk hx (by rw [hz]; exact h4) (shut_free h.lock k), lockedW_0 h0]
 have hx1 : s1.thr[k]? = some { y with ph := 1 } := get_set hkl _
 have z1 : zPh { y with ph := 1 } = y := by rw [← hz]; rfl
 have e2 : owW p s1 (k : Int) false = (s2, true) := by
  rw [owW_lk hx1 (by rw [z1]; exact h4) (shutB_own rfl), lockedW_1 rfl, z1]
  have hsn : seenW s1 k (nextW p k y).addr = v := by
   show (lastE (bufAt s k) _).getD (rdM s _) = v
   rw [hb, hv]; rfl
  rw [hsn]
  show (({ s with lock := _, thr := (s.thr.set k _).set k _ } : State), true) = _
  rw [List.set_set]
 have hx2 : s2.thr[k]? = some { y with la := v, ph := 2 } := get_set hkl _
 have z2 : zPh { y with la := v, ph := 2 } = y := by rw [← hz]; rfl
 have e3 : owW p s2 (k : Int) false = (s3, true) := by
  rw [owW_lk hx2 (by rw [z2]; exact h4) (shutB_own rfl), lockedW_2 rfl (by rw [z2]; show (swapW p k y v).2.2 = true; rw [hw]), z2]
  show (({ s with lock := _, thr := (s.thr.set k _).set k _, bufs := s.bufs.set k (bufAt s k ++ [⟨(nextW p k y).addr, (swapW p k y v).2.1⟩]) } : State), true) = _
  rw [List.set_set, hb, hw, ← ha]
  rfl
 have hx3 : s3.thr[k]? = some { y with la := v, ph := 3 } := get_set hkl _
 have e4 : owW p s3 (k : Int) true = (s4, true) := by
  have hb3 : bufAt s3 k = [⟨a, w⟩] := bufAt_set hkb _ s.mem
  rw [owW_fl hx3 (shutB_own rfl), flushW_cons (s := s3) hb3]
  show (({ s with lock := _, thr := _, mem := wrM s a w, bufs := (s.bufs.set k _).set k [] } : State), true) = _
  rw [List.set_set, bufs_set_nil hkb hb]
 have hx4 : s4.thr[k]? = some { y with la := v, ph := 3 } := get_set hkl _
 have z4 : zPh { y with la := v, ph := 3 } = y := by rw [← hz]; rfl
 have e5 : owW p s4 (k : Int) false = ({ s with thr := s.thr.set k z, mem := wrM s a w }, true) := by
  rw [owW_lk hx4 (by rw [z4]; exact h4) (shutB_own rfl), lockedW_e (s := s4) (by simp) (by simp) (by simp) hb, z4]
  show (({ s with thr := (s.thr.set k _).set k (swapW p k y v).1, mem := _, lock := 0 } : State), true) = _
  rw [List.set_set, hw, ← h.lock]
 refine ⟨⟨by rw [e1], by rw [e1, e2], by rw [e1, e2, e3], by rw [e1, e2, e3, e4], by rw [e1, e2, e3, e4, e5], trivial⟩, ?_, ?_⟩
 ·show (owW p (owW p (owW p (owW p (owW p s k false).1 k false).1 k false).1 k true).1 k false).1 = _
  rw [e1, e2, e3, e4, e5]
 ·show colS p s _ ++ (colS p (owW p s k false).1 _ ++ (colS p (owW p (owW p s k false).1 k false).1 _ ++ (colS p (owW p (owW p (owW p s k false).1 k false).1 k false).1 _ ++ (colS p (owW p (owW p (owW p (owW p s k false).1 k false).1 k false).1 k true).1 _ ++ [])))) = _
  unfold colS
  simp only [e1, e2, e3, e4, e5]
  have hl := h.lock
  have k1 : colK s s1 (k, false) = false := by
   unfold colK; simp only [s1, hl]; simp <;> omega
  have k2 : colK s1 s2 (k, false) = false := by
   unfold colK; simp only [s1, s2]; simp <;> omega
  have k3 : colK s2 s3 (k, false) = false := by
   unfold colK; simp only [s2, s3]; simp <;> omega
  have k4 : colK s3 s4 (k, true) = false := by
   have g1 : (s3.thr.getD ((k : Int)).toNat zThr).ph = 3 := by
    rw [Int.toNat_natCast, List.getD_eq_getElem?_getD, hx3]; rfl
   have g2 : (bufAt s3 ((k : Int)).toNat).length = 1 := by
    rw [Int.toNat_natCast, show bufAt s3 k = [⟨a, w⟩] from bufAt_set hkb _ s.mem]; rfl
   unfold colK
   simp only [g1, g2, decide_true, Bool.and_true, Bool.true_and]
   simp [s3]
  have k5 : colK s4 { s with thr := s.thr.set k z, mem := wrM s a w } (k, false) = true := by
   unfold colK; simp only [s4, hl]; simp <;> omega
  rw [k1, k2, k3, k4, k5]
  rfl
theorem exp_ok (h : aS p s) (x : Pk) : dnO p s (expS p s x) ∧ sO p s (expS p s x) = (tsoW p s x.1 x.2).1 ∧ colL p s (expS p s x) = if (tsoW p s x.1 x.2).2 = true then [x] else [] := by
 obtain ⟨t, f⟩ := x
 simp only
 unfold expS
 simp only
 cases hd : (tsoW p s t f).2 with
 | false =>
  simp only [Bool.false_eq_true, if_false]
  refine ⟨trivial, ?_, rfl⟩
  show s = _
  by_cases ht : 0 ≤ t ∧ t < (s.thr.length : Int)
  ·obtain ⟨k, rfl⟩ : ∃ k : Nat, t = k := ⟨t.toNat, by omega⟩
   have hkl : k < s.thr.length := by omega
   have hx : s.thr[k]? = some s.thr[k] := List.getElem?_eq_getElem hkl
   cases f with
   | true =>
    rw [tsoW_f hkl] at hd ⊢
    unfold flushW at hd ⊢
    split <;> simp_all
   | false =>
    rw [tsoW_s hx] at hd ⊢
    exact (stepB_no' hd).symm
  ·rw [tsoW_out ht]
 | true =>
  simp only [if_true]
  by_cases ht : 0 ≤ t ∧ t < (s.thr.length : Int)
  ·obtain ⟨k, rfl⟩ : ∃ k : Nat, t = k := ⟨t.toNat, by omega⟩
   have hkl : k < s.thr.length := by omega
   have hx : s.thr[k]? = some s.thr[k] := List.getElem?_eq_getElem hkl
   generalize s.thr[k] = y at hx
   rw [expB_in hx]
   by_cases hc : f = false ∧ (nextW p k y).kind = 4
   ·rw [if_pos hc]
    obtain ⟨rfl, h4⟩ := hc
    rw [tsoW_s hx] at hd ⊢
    have hb : bufAt s k = [] := Classical.byContradiction fun hb => by
     rw [stepB_w (.inl h4) hb] at hd; cases hd
    rw [stepB_4 h4 hb]
    cases hw : swapW p k y (rdM s (nextW p k y).addr) with
    | mk z r =>
     obtain ⟨w, b⟩ := r
     cases b with
     | true => exact block_w h hx h4 hb hw
     | false => exact block_n h hx h4 hb hw
   ·rw [if_neg hc]
    simp only [Bool.false_eq_true, if_false]
    have e : owW p s k f = tsoW p s k f := by
     cases f with
     | true => rw [owW_fl hx (shut_free h.lock k), tsoW_f hkl]
     | false =>
      have h4 : (nextW p k y).kind ≠ 4 := fun h4 => hc ⟨rfl, h4⟩
      rw [owW_pl hx (h.nz hx h4), shut_free h.lock, plainW_f, tsoW_s hx]
    refine ⟨⟨by rw [e]; exact hd, trivial⟩, by show (owW p s k f).1 = _; rw [e], ?_⟩
    show colS p s _ ++ [] = _
    unfold colS
    simp only [e, hd]
    have hl' := (h.step ((k : Int), f)).lock
    simp only at hl'
    have : colK s (tsoW p s k f).1 (k, f) = true := by
     unfold colK
     simp only [h.lock, hl']
     have : decide ((0 : Int) = (k : Int) + 1) = false := dF (by omega)
     simp [this]
    rw [this]
    rfl
  ·rw [tsoW_out ht] at hd; cases hd
theorem exp_all : ∀ (l : List Pk) {s : State}, aS p s → dnO p s (expL p s l) ∧ sO p s (expL p s l) = sA p s l ∧ colL p s (expL p s l) = doneL p s l
 | [], _, _ => ⟨trivial, rfl, rfl⟩
 | x :: l, s, h => by
  obtain ⟨a1, a2, a3⟩ := exp_ok h x
  obtain ⟨b1, b2, b3⟩ := exp_all l (h.step x)
  rw [expL]
  refine ⟨dnO_app a1 (by rw [a2]; exact b1), by rw [sO_app, a2, b2]; rfl, ?_⟩
  rw [colL_app, a3, a2, b3]; rfl
end
end Go.Proofs.YteegjmglkkhoeaaGreatDoor
namespace Go.Proofs.YteegjmglkkhoeaaGreatDoor
set_option maxRecDepth 20000
open Go Go.Proofs.YteegjmglkkhoeaaGreatDoor.V Go.Proofs
section
variable {p : Prg} {s : State} {k : Nat} {y : Thr}
theorem expL_nil (p : Prg) (s : State) : expL p s [] = [] := rfl
theorem expL_snoc (p : Prg) (a : List Pk) (s : State) (x : Pk) : expL p s (a ++ [x]) = expL p s a ++ expS p (sA p s a) x := by
 rw [expL_app]
 show _ ++ (expS p _ x ++ []) = _
 rw [List.append_nil]
theorem expS_no {x : Pk} (h : (tsoW p s x.1 x.2).2 = false) : expS p s x = [] := by unfold expS; rw [h]; rfl
theorem expS_f (hx : s.thr[k]? = some y) (hd : (tsoW p s (k : Int) true).2 = true) : expS p s ((k : Int), true) = [((k : Int), true)] := by
 unfold expS
 have e : expB p s ((k : Int), true) = (false, false) := (expB_in hx true).trans (if_neg (fun h => by cases h.1))
 rw [e, if_pos hd]; rfl
theorem expS_p (hx : s.thr[k]? = some y) (h4 : (nextW p k y).kind ≠ 4) (hd : (tsoW p s (k : Int) false).2 = true) : expS p s ((k : Int), false) = [((k : Int), false)] := by
 unfold expS
 have e : expB p s ((k : Int), false) = (false, false) := (expB_in hx false).trans (if_neg (fun h => h4 h.2))
 rw [e, if_pos hd]; rfl
theorem expS_k (hx : s.thr[k]? = some y) (h4 : (nextW p k y).kind = 4) (hd : (tsoW p s (k : Int) false).2 = true) : expS p s ((k : Int), false) =
  if (swapW p k y (rdM s (nextW p k y).addr)).2.2 = true then [((k : Int), false), ((k : Int), false), ((k : Int), false), ((k : Int), true), ((k : Int), false)] else [((k : Int), false), ((k : Int), false), ((k : Int), false)] := by
 unfold expS
 have e : expB p s ((k : Int), false) = (true, (swapW p k y (rdM s (nextW p k y).addr)).2.2) := (expB_in hx false).trans (if_pos ⟨rfl, h4⟩)
 rw [e, if_pos hd]
 simp only
 by_cases h : (swapW p k y (rdM s (nextW p k y).addr)).2.2 = true
 ·rw [if_pos h, if_pos h]
 ·rw [if_neg h, if_neg h, if_pos trivial]
end
end Go.Proofs.YteegjmglkkhoeaaGreatDoor
namespace Go.Proofs.YteegjmglkkhoeaaGreatDoor
set_option maxRecDepth 20000
open Go Go.Proofs.YteegjmglkkhoeaaGreatDoor.V Go.Proofs
section
variable {p : Prg} {s : State} {k : Nat} {y : Thr}
theorem colL_nil (p : Prg) (s : State) : colL p s [] = [] := rfl
theorem colL_snoc (p : Prg) (a : List Pk) (s : State) (x : Pk) : colL p s (a ++ [x]) = colL p s a ++ colS p (sO p s a) x := by
 rw [colL_app]
 show _ ++ (colS p _ x ++ []) = _
 rw [List.append_nil]
theorem colS_no {x : Pk} (h : (owW p s x.1 x.2).2 = false) : colS p s x = [] := by unfold colS; rw [h]; rfl
theorem colS_f (hx : s.thr[k]? = some y) (hd : (owW p s (k : Int) true).2 = true) : colS p s ((k : Int), true) =
  if s.lock = (k : Int) + 1 ∧ y.ph = 3 ∧ (bufAt s k).length = 1 then [] else [((k : Int), true)] := by
 unfold colS colK
 have g : s.thr.getD ((k : Int)).toNat zThr = y := by rw [Int.toNat_natCast, List.getD_eq_getElem?_getD, hx]; rfl
 simp only [g, hd]
 simp only [Int.toNat_natCast]
 clear g hx hd
 by_cases h1 : s.lock = (k : Int) + 1 <;> by_cases h2 : y.ph = 3 <;> by_cases h3 : (bufAt s k).length = 1 <;> simp [h1, h2, h3]
theorem colS_s (hd : (owW p s (k : Int) false).2 = true) : colS p s ((k : Int), false) =
  if (s.lock = (k : Int) + 1 ∨ (owW p s (k : Int) false).1.lock = (k : Int) + 1) ∧ ¬ (s.lock ≠ 0 ∧ (owW p s (k : Int) false).1.lock = 0) then [] else [((k : Int), false)] := by
 unfold colS colK
 simp only [hd]
 generalize (owW p s (k : Int) false).1.lock = b
 by_cases h1 : s.lock = (k : Int) + 1 <;> by_cases h2 : b = (k : Int) + 1 <;> by_cases h3 : s.lock = 0 <;> by_cases h4 : b = 0 <;> simp [h1, h2, h3, h4]
theorem owW_flock (p : Prg) (s : State) (k : Nat) : (owW p s (k : Int) true).1.lock = s.lock := by
 by_cases ht : k < s.thr.length
 ·rw [owW_f ht]
  split
  ·rfl
  ·exact (flushW_thr s k).2.2
 ·rw [owW_out (by omega)]
theorem owW_fbuf (hx : s.thr[k]? = some y) (hd : (owW p s (k : Int) true).2 = true) : 0 < (bufAt s k).length := by
 have hk : k < s.thr.length := (List.getElem?_eq_some_iff.1 hx).1
 rw [owW_f hk] at hd
 split at hd
 ·cases hd
 ·cases hb : bufAt s k with
  | nil => rw [flushW_nil hb] at hd; cases hd
  | cons e r => simp
end
end Go.Proofs.YteegjmglkkhoeaaGreatDoor
namespace Go.Proofs.YteegjmglkkhoeaaGreatDoor
set_option maxRecDepth 20000
open Go Go.Proofs.YteegjmglkkhoeaaGreatDoor.V Go.Proofs
theorem sh_pick : shapeOf prog 10000 48 = some [.i .i64, .b] := by kernel_rfl
theorem ag_pick : (prog.underlying 48).map aggD = some true := by kernel_rfl
theorem eg_pick : prog.eqGuardType prog.depth 48 = false := by kernel_rfl
section
attribute [local irreducible] TwS TwR thenT inBlockT retT
variable {G : World → Prop}
theorem samePicks_spec (l : List (Int × Bool)) (hl : l.length ≤ 1000000) : Pure prog G 10 [.lst 2 (l.map cPick), .lst 2 (l.map cPick)] (tB true) := by
 have hml : (l.map cPick).length = l.length := lM ..
 refine Pure.at mixedOk F10 rfl fun C hP hG hp => goF ?_; simp only [F10, targEnv, Nat.zero_add, Nat.reduceAdd]
 repeat' (first | refine goR rfl ?_ | refine goS rfl ?_ | refine tret1 rfl ?_ | refine tretN rfl ?_ | refine gY rfl rfl ?_ | refine gN rfl rfl ?_ | refine qT rfl rfl ?_ | refine qF rfl rfl ?_ | ((first | refine gS rfl (fun h => ?_) (fun h => ?_) | refine ts_cond rfl (fun h => ?_) (fun h => ?_)) <;> (try simp only [bs0, beq_iff_eq] at h) <;> try (exfalso; exact h trivial; done)) | fail)
 refine loopS (fun m env σ => ∃ a b, l = a ++ b ∧ m = b.length ∧ env = [(0, .lst 2 (l.map cPick)), (1, .lst 2 (l.map cPick)), (5, tI a.length)] ∧ σ = ⟨[], 0⟩) l.length (w_sub [0, 1, 5] rfl) ⟨[], l, rfl, rfl, rfl, rfl⟩ ?_
 rintro m env σ ⟨a, b, e, rfl, rfl, rfl⟩
 have hla : l.length = a.length + b.length := by rw [e, lA]
 cases b with
 | nil =>
  rw [List.length_nil] at hla
  repeat' (first | refine goR rfl ?_ | refine goS rfl ?_ | refine tret1 rfl ?_ | refine tretN rfl ?_ | refine gY rfl rfl ?_ | refine gN rfl rfl ?_ | refine qT rfl rfl ?_ | refine qF rfl rfl ?_ | refine qF rfl (dF (by omega)) ?_ | fail)
  exact .fr rfl
 | cons x b =>
  have hx : l[a.length]? = some x := by rw [e]; exact ix
  simp only [List.length_cons] at hla
  have hw1 : IntKind.i64.wrap ((a.length : Int) + 1) = ((a ++ [x]).length : Int) := by rw [w64 (by omega), lA]; rfl
  repeat' (first | refine goR rfl ?_ | refine goS rfl ?_ | refine tret1 rfl ?_ | refine tretN rfl ?_ | refine gY rfl rfl ?_ | refine gN rfl rfl ?_ | refine qT rfl rfl ?_ | refine qF rfl rfl ?_ | refine qT rfl (dT (by omega)) ?_ | refine lT (tl_ixm rfl rfl rfl hx) ?_ | refine lT (tl_neT (by rw [hP]; exact sh_pick) (by rw [hP]; exact ag_pick) (by rw [hP]; exact eg_pick) rfl rfl rfl rfl rfl) ?_ | fail)
  refine again (m' := b.length) (Nat.lt_succ_self _) (w_sub [0, 1, 5] rfl) ⟨a ++ [x], b, by rw [e]; simp, rfl, by rw [hw1], rfl⟩
end
end Go.Proofs.YteegjmglkkhoeaaGreatDoor
