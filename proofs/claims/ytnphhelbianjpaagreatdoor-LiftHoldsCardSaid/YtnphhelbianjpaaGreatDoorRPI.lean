/-
  Walks of functions of the program, and what the laws need of them.
-/
import Derived.Test.YtnphhelbianjpaaGreatDoorRPE
import Derived.Test.YtnphhelbianjpaaGreatDoorVI
import Derived.Test.YtnphhelbianjpaaGreatDoorRPH
import Derived.Test.YtnphhelbianjpaaGreatDoorRPG
set_option linter.all false
set_option linter.unusedSimpArgs false
set_option linter.unusedVariables false
set_option linter.unnecessarySimpa false
namespace Go.Proofs.YtnphhelbianjpaaGreatDoor
set_option maxRecDepth 20000
open Go Go.Proofs.YtnphhelbianjpaaGreatDoor.V Go.Proofs
def zE : Entry := ⟨0, 0⟩
structure Rg where
 l : List Entry
 p : Nat
 n : Nat
def Rg.new : Rg := ⟨[], 0, 0⟩
def Rg.plc (r : Rg) (k : Nat) : Nat := (r.p + k) % r.l.length
def Rg.get (r : Rg) (k : Nat) : Entry := r.l.getD (r.plc k) zE
def Rg.list (r : Rg) : List Entry := (List.range r.n).map r.get
def Rg.push (r : Rg) (e : Entry) : Rg := if r.n = r.l.length then ⟨(r.list ++ List.replicate (r.n + 2) zE).set r.n e, 0, r.n + 1⟩ else ⟨r.l.set (r.plc r.n) e, r.p, r.n + 1⟩
def Rg.pop (r : Rg) : Rg := ⟨r.l, r.plc 1, r.n - 1⟩
structure Rg.ok (r : Rg) : Prop where
 n : r.n ≤ r.l.length
 p : r.l = [] ∨ r.p < r.l.length
theorem Rg.new_ok : Rg.new.ok := ⟨Nat.le_refl _, .inl rfl⟩
theorem Rg.list_len (r : Rg) : r.list.length = r.n := by rw [Rg.list, lM, List.length_range]
theorem Rg.list_get {r : Rg} {k : Nat} (h : k < r.n) : r.list[k]? = some (r.get k) := by
 rw [Rg.list, List.getElem?_map, List.getElem?_range h]; rfl
theorem Rg.plc_lt {r : Rg} (h : r.l ≠ []) (k : Nat) : r.plc k < r.l.length := Nat.mod_lt _ (List.length_pos_iff.2 h)
theorem mod_two {a k L : Nat} (h : a < L) (h' : k ≤ L) : (a + k) % L = if a + k < L then a + k else a + k - L := by
 split
 ·exact Nat.mod_eq_of_lt ‹_›
 ·rw [Nat.mod_eq_sub_mod (by omega), Nat.mod_eq_of_lt (by omega)]
theorem list_ext {α : Type} {f g : Nat → α} : ∀ (n : Nat), (∀ k, k < n → f k = g k) → (List.range n).map f = (List.range n).map g := fun n h => List.map_congr_left fun k hk => h k (List.mem_range.1 hk)
theorem Rg.push_list {r : Rg} (h : r.ok) (e : Entry) : (r.push e).list = r.list ++ [e] := by
 obtain ⟨hn, hp⟩ := h
 have key : ∀ (q : Rg), q.n = r.n + 1 → (∀ k, k < r.n → q.get k = r.get k) → q.get r.n = e → q.list = r.list ++ [e] := by
  intro q h1 h2 h3
  unfold Rg.list
  rw [h1, List.range_succ, List.map_append, List.map_singleton, h3, list_ext _ h2]
 unfold Rg.push
 split
 ·rename_i hf
  refine key _ rfl (fun k hk => ?_) ?_
  ·have hl := r.list_len
   show List.getD (List.set _ _ _) ((0 + k) % _) zE = _
   rw [List.getD_eq_getElem?_getD, List.length_set, lA, List.length_replicate, hl, Nat.zero_add, Nat.mod_eq_of_lt (by omega), List.getElem?_set_ne (by omega), List.getElem?_append_left (by omega), Rg.list_get hk]
   rfl
  ·have hl := r.list_len
   show List.getD (List.set _ _ _) ((0 + r.n) % _) zE = _
   rw [List.getD_eq_getElem?_getD, List.length_set, lA, List.length_replicate, hl, Nat.zero_add, Nat.mod_eq_of_lt (by omega), List.getElem?_set_self (by rw [lA, List.length_replicate, hl]; omega)]
   rfl
 ·rename_i hf
  have hne : r.l ≠ [] := by intro h0; rw [h0] at hn hf; simp at hn hf; omega
  have hp := hp.resolve_left hne
  refine key _ rfl (fun k hk => ?_) ?_
  ·show List.getD (List.set _ _ _) ((r.p + k) % _) zE = _
   rw [List.getD_eq_getElem?_getD, List.length_set, List.getElem?_set_ne, ← List.getD_eq_getElem?_getD]
   ·rfl
   ·unfold Rg.plc
    rw [mod_two hp (by omega), mod_two hp (by omega)]
    split <;> split <;> omega
  ·show List.getD (List.set _ _ _) ((r.p + r.n) % _) zE = _
   rw [List.getD_eq_getElem?_getD, List.length_set, show (r.p + r.n) % r.l.length = r.plc r.n from rfl, List.getElem?_set_self (Rg.plc_lt hne _)]
   rfl
theorem Rg.push_ok {r : Rg} (h : r.ok) (e : Entry) : (r.push e).ok := by
 obtain ⟨hn, hp⟩ := h
 have hl := r.list_len
 unfold Rg.push
 split
 ·refine ⟨?_, .inr ?_⟩
  ·show r.n + 1 ≤ (List.set _ _ _).length
   rw [List.length_set, lA, List.length_replicate]; omega
  ·show 0 < (List.set _ _ _).length
   rw [List.length_set, lA, List.length_replicate]; omega
 ·refine ⟨?_, ?_⟩
  ·show r.n + 1 ≤ (List.set _ _ _).length
   rw [List.length_set]; omega
  ·refine hp.imp (fun h => ?_) fun h => ?_
   ·show List.set _ _ _ = []
    rw [h]; rfl
   ·show r.p < (List.set _ _ _).length
    rw [List.length_set]; exact h
theorem Rg.pop_list {r : Rg} (h : r.ok) (h0 : r.n ≠ 0) : r.list = r.l.getD r.p zE :: r.pop.list := by
 obtain ⟨hn, hp⟩ := h
 have hne : r.l ≠ [] := by intro h; rw [h] at hn; simp at hn; omega
 have hp := hp.resolve_left hne
 obtain ⟨m, hm⟩ : ∃ m, r.n = m + 1 := ⟨r.n - 1, by omega⟩
 have hm1 : (r.pop).n = m := by show r.n - 1 = m; omega
 unfold Rg.list
 rw [hm1, hm, List.range_succ_eq_map, List.map_cons, List.map_map]
 congr 1
 ·show List.getD _ ((r.p + 0) % _) _ = _
  rw [Nat.add_zero, Nat.mod_eq_of_lt hp]
 ·refine list_ext _ fun k hk => ?_
  show List.getD _ ((r.p + (k + 1)) % _) _ = List.getD _ ((((r.p + 1) % r.l.length) + k) % r.l.length) _
  rw [Nat.mod_add_mod, Nat.add_assoc, Nat.add_comm 1 k]; rfl
theorem Rg.pop_ok {r : Rg} (h : r.ok) (h0 : r.n ≠ 0) : r.pop.ok := by
 obtain ⟨hn, hp⟩ := h
 have hne : r.l ≠ [] := by intro h; rw [h] at hn; simp at hn; omega
 exact ⟨by show r.n - 1 ≤ r.l.length; omega, .inr (Rg.plc_lt hne 1)⟩
theorem Rg.len0 {r : Rg} : r.n = 0 ↔ r.list = [] := by rw [← List.length_eq_zero_iff, r.list_len]
def lastE (l : List Entry) (a : Int) : Option Int := (l.reverse.find? fun e => decide (e.addr = a)).map (·.val)
theorem lastE_nil (a : Int) : lastE [] a = none := rfl
theorem lastE_snoc (l : List Entry) (e : Entry) (a : Int) : lastE (l ++ [e]) a = if e.addr = a then some e.val else lastE l a := by
 unfold lastE
 rw [List.reverse_append, List.reverse_singleton, List.singleton_append, List.find?_cons]
 by_cases h : e.addr = a <;> simp [h]
end Go.Proofs.YtnphhelbianjpaaGreatDoor
namespace Go.Proofs.YtnphhelbianjpaaGreatDoor
set_option maxRecDepth 20000
open Go Go.Proofs.YtnphhelbianjpaaGreatDoor.V Go.Proofs
section
attribute [local irreducible] TwS TwR thenT inBlockT retT
variable {G : World → Prop}
end
end Go.Proofs.YtnphhelbianjpaaGreatDoor
namespace Go.Proofs.YtnphhelbianjpaaGreatDoor
set_option maxRecDepth 20000
open Go Go.Proofs.YtnphhelbianjpaaGreatDoor.V Go.Proofs
end Go.Proofs.YtnphhelbianjpaaGreatDoor
namespace Go.Proofs.YtnphhelbianjpaaGreatDoor
set_option maxRecDepth 20000
open Go Go.Proofs.YtnphhelbianjpaaGreatDoor.V Go.Proofs

def bufAt (s : State) (t : Nat) : List Entry := s.bufs.getD t []
def flushW (s : State) (t : Nat) : State × Bool := match bufAt s t with
 | [] => (s, false)
 | e :: r => ({ s with mem := wrM s e.addr e.val, bufs := s.bufs.set t r }, true)
def seenW (s : State) (t : Nat) (a : Int) : Int := (lastE (bufAt s t) a).getD (rdM s a)
def stepB (p : Prg) (s : State) (t : Nat) (x : Thr) : State × Bool :=
 if ((nextW p t x).kind = 4 ∨ (nextW p t x).kind = 5) ∧ bufAt s t ≠ [] then (s, false)
 else if (nextW p t x).kind = 2 then ({ s with thr := s.thr.set t (loadedW p t x (seenW s t (nextW p t x).addr)) }, true)
 else if (nextW p t x).kind = 3 then ({ s with thr := s.thr.set t (localW p t x), bufs := s.bufs.set t (bufAt s t ++ [⟨(nextW p t x).addr, (nextW p t x).val⟩]) }, true)
 else stepS p s t x
def tsoW (p : Prg) (s : State) (t : Int) (f : Bool) : State × Bool := if 0 ≤ t then (match s.thr[t.toNat]? with
  | some x => if f = true then flushW s t.toNat else stepB p s t.toNat x
  | none => (s, false)) else (s, false)
def doR (p : Prg) (s : State) (R : List Rg) (t : Int) (f : Bool) : List Rg := if 0 ≤ t then (match s.thr[t.toNat]?, R[t.toNat]? with
  | some x, some r => if f = true then (if r.n = 0 then R else R.set t.toNat r.pop) else if (nextW p t.toNat x).kind = 3 then R.set t.toNat (r.push ⟨(nextW p t.toNat x).addr, (nextW p t.toNat x).val⟩) else R
  | _, _ => R) else R
theorem nextW_kinds (p : Prg) (t : Int) (x : Thr) : 0 ≤ (nextW p t x).kind ∧ (nextW p t x).kind ≤ 6 := by
 have k : ∀ n : Int, n = 0 ∨ n = 1 ∨ n = 2 ∨ n = 3 ∨ n = 4 ∨ n = 5 ∨ n = 6 → 0 ≤ n ∧ n ≤ 6 := fun n h => by omega
 refine k _ ?_
 unfold nextW
 cases curI p t x with
 | none => exact .inl rfl
 | some i =>
  simp only
  split
  ·unfold stepW
   repeat' split
   all_goals first | exact .inl rfl | exact .inr (.inl rfl) | exact .inr (.inr (.inl rfl)) | exact .inr (.inr (.inr (.inl rfl))) | exact .inr (.inr (.inr (.inr (.inl rfl)))) | exact .inr (.inr (.inr (.inr (.inr (.inl rfl))))) | exact .inr (.inr (.inr (.inr (.inr (.inr rfl)))))
  ·exact .inl rfl
section
variable {p : Prg} {s : State} {t : Nat} {x : Thr}
theorem stepB_0 (h : (nextW p t x).kind = 0) : stepB p s t x = (s, false) := by
 unfold stepB stepS
 rw [if_neg (by omega), if_neg (by omega), if_neg (by omega), if_pos h]
theorem stepB_w (h : (nextW p t x).kind = 4 ∨ (nextW p t x).kind = 5) (hb : bufAt s t ≠ []) : stepB p s t x = (s, false) := by
 unfold stepB
 rw [if_pos ⟨h, hb⟩]
theorem stepB_2 (h : (nextW p t x).kind = 2) : stepB p s t x = ({ s with thr := s.thr.set t (loadedW p t x (seenW s t (nextW p t x).addr)) }, true) := by
 unfold stepB
 rw [if_neg (by omega), if_pos h]
theorem stepB_3 (h : (nextW p t x).kind = 3) : stepB p s t x = ({ s with thr := s.thr.set t (localW p t x), bufs := s.bufs.set t (bufAt s t ++ [⟨(nextW p t x).addr, (nextW p t x).val⟩]) }, true) := by
 unfold stepB
 rw [if_neg (by omega), if_neg (by omega), if_pos h]
theorem stepB_4 (h : (nextW p t x).kind = 4) (hb : bufAt s t = []) : stepB p s t x = ({ s with thr := s.thr.set t (swapW p t x (rdM s (nextW p t x).addr)).1, mem := if (swapW p t x (rdM s (nextW p t x).addr)).2.2 = true then wrM s (nextW p t x).addr (swapW p t x (rdM s (nextW p t x).addr)).2.1 else s.mem }, true) := by
 unfold stepB stepS
 rw [if_neg (by rw [hb]; simp), if_neg (by omega), if_neg (by omega), if_neg (by omega), if_neg (by omega), if_neg (by omega), if_pos h]
theorem stepB_5 (h0 : (nextW p t x).kind ≠ 0) (h2 : (nextW p t x).kind ≠ 2) (h3 : (nextW p t x).kind ≠ 3) (h4 : (nextW p t x).kind ≠ 4) (h : (nextW p t x).kind = 5 → bufAt s t = []) : stepB p s t x = ({ s with thr := s.thr.set t (localW p t x) }, true) := by
 unfold stepB stepS
 rw [if_neg (fun hc => hc.2 (h (hc.1.resolve_left h4))), if_neg h2, if_neg h3, if_neg h0, if_neg h2, if_neg h3, if_neg h4]
end
structure rgQ (s : State) (R : List Rg) (m : Nat) : Prop where
 bufs : s.bufs = R.map Rg.list
 len : R.length = s.thr.length
 ok : ∀ r ∈ R, r.ok
 few : ∀ r ∈ R, r.n ≤ m ∧ r.l.length ≤ 2 * m + 2
 addr : ∀ r ∈ R, ∀ e ∈ r.list, 0 ≤ e.addr ∧ e.addr < s.mem.length ∧ inR e.val
theorem rgQ.at {s : State} {R : List Rg} {m : Nat} (h : rgQ s R m) {t : Nat} {r : Rg} (hr : R[t]? = some r) : bufAt s t = r.list := by
 rw [bufAt, h.bufs, List.getD_eq_getElem?_getD, List.getElem?_map, hr]; rfl
theorem rgQ.has {s : State} {R : List Rg} {m : Nat} (h : rgQ s R m) {t : Nat} {x : Thr} (hx : s.thr[t]? = some x) : ∃ r, R[t]? = some r := by
 have := (List.getElem?_eq_some_iff.1 hx).1
 rw [← h.len] at this
 exact ⟨_, List.getElem?_eq_getElem this⟩
theorem few_succ {r : Rg} {m : Nat} (h : r.n ≤ m ∧ r.l.length ≤ 2 * m + 2) : r.n ≤ m + 1 ∧ r.l.length ≤ 2 * (m + 1) + 2 := ⟨by omega, by omega⟩
theorem wrM_len (s : State) (a v : Int) : (wrM s a v).length = s.mem.length := List.length_set ..
theorem stepS_bufs (p : Prg) (s : State) (t : Nat) (x : Thr) : (stepS p s t x).1.bufs = s.bufs ∧ (stepS p s t x).1.lock = s.lock ∧ (stepS p s t x).1.thr.length = s.thr.length ∧ (stepS p s t x).1.mem.length = s.mem.length := by
 unfold stepS
 repeat' split
 all_goals simp [wrM_len]
theorem doR_ok {p : Prg} (hc : checkC p = 0) (hn : numsOk p) {s : State} {R : List Rg} {m : Nat} (hq : stQ p s) (h : rgQ s R m) (t : Int) (f : Bool) : rgQ (tsoW p s t f).1 (doR p s R t f) (m + 1) := by
 obtain ⟨h1, h2, h3, h4, h5⟩ := h
 have hmono : rgQ s R (m + 1) := ⟨h1, h2, h3, fun r hr => few_succ (h4 r hr), h5⟩
 unfold tsoW doR
 split
 ·obtain ⟨k, rfl⟩ : ∃ k : Nat, t = k := ⟨t.toNat, by omega⟩
  simp only [Int.toNat_natCast]
  cases hx : s.thr[k]? with
  | none => exact hmono
  | some x =>
   obtain ⟨r, hr⟩ := rgQ.has ⟨h1, h2, h3, h4, h5⟩ hx
   have hb := rgQ.at ⟨h1, h2, h3, h4, h5⟩ hr
   have hrm := List.mem_of_getElem? hr
   have hkl := (List.getElem?_eq_some_iff.1 hr).1
   rw [hr]
   simp only
   have setR : ∀ (s' : State) (r' : Rg), s'.bufs = s.bufs.set k r'.list → s'.thr.length = s.thr.length → s'.mem.length = s.mem.length → r'.ok → (r'.n ≤ m + 1 ∧ r'.l.length ≤ 2 * (m + 1) + 2) → (∀ e ∈ r'.list, 0 ≤ e.addr ∧ e.addr < s.mem.length ∧ inR e.val) → rgQ s' (R.set k r') (m + 1) := by
    intro s' r' e1 e2 e3 e4 e5 e6
    refine ⟨by rw [e1, h1, List.map_set], by rw [List.length_set, h2, e2], set_in h3 e4 _, set_in (fun r hr => few_succ (h4 r hr)) e5 _, ?_⟩
    rw [e3]
    exact set_in (Q := fun r : Rg => ∀ e ∈ r.list, 0 ≤ e.addr ∧ e.addr < s.mem.length ∧ inR e.val) h5 e6 _
   cases f with
   | true =>
    simp only [if_true]
    unfold flushW
    by_cases h0 : r.n = 0
    ·rw [if_pos h0, hb, Rg.len0.1 h0]
     exact hmono
    ·rw [if_neg h0, hb, Rg.pop_list (h3 r hrm) h0]
     refine setR _ _ rfl rfl (wrM_len ..) (Rg.pop_ok (h3 r hrm) h0) (by have := h4 r hrm; exact ⟨by show r.n - 1 ≤ m + 1; omega, by show r.l.length ≤ _; omega⟩) fun e he => h5 r hrm e ?_
     rw [Rg.pop_list (h3 r hrm) h0]
     exact List.mem_cons_of_mem _ he
   | false =>
    simp only [Bool.false_eq_true, if_false]
    unfold stepB
    by_cases k3 : (nextW p k x).kind = 3
    ·rw [if_pos k3, if_neg (by omega), if_neg (by omega), if_pos k3]
     have hxq := hq.thr x (List.mem_of_getElem? hx)
     refine setR _ _ (by rw [Rg.push_list (h3 r hrm), hb]) (List.length_set ..) rfl (Rg.push_ok (h3 r hrm) _) ?_ ?_
     ·have := h4 r hrm
      have hll := r.list_len
      unfold Rg.push
      split
      ·refine ⟨by show r.n + 1 ≤ m + 1; omega, ?_⟩
       show (List.set _ _ _).length ≤ _
       rw [List.length_set, lA, List.length_replicate]; omega
      ·refine ⟨by show r.n + 1 ≤ m + 1; omega, ?_⟩
       show (List.set _ _ _).length ≤ _
       rw [List.length_set]; omega
     ·intro e he
      rw [Rg.push_list (h3 r hrm)] at he
      rcases List.mem_append.1 he with he | he
      ·exact h5 r hrm e he
      ·rw [List.mem_singleton.1 he]
       obtain ⟨a1, a2⟩ := next_addr hc (t := k) (x := x) (.inr (.inl k3))
       rw [← hq.len] at a2
       exact ⟨a1, a2, next_in hn hxq⟩
    ·rw [if_neg k3]
     split
     ·exact hmono
     split
     ·exact ⟨h1, by rw [h2]; exact (List.length_set ..).symm, h3, fun r hr => few_succ (h4 r hr), h5⟩
     obtain ⟨e1, e2, e3, e4⟩ := stepS_bufs p s k x
     exact ⟨by rw [e1, h1], by rw [e3, h2], h3, fun r hr => few_succ (h4 r hr), by rw [e4]; exact h5⟩
 ·exact hmono
theorem seen_in {s : State} (h : ∀ v ∈ s.mem, inR v) {t : Nat} (hb : ∀ e ∈ bufAt s t, inR e.val) (a : Int) : inR (seenW s t a) := by
 unfold seenW lastE
 cases hf : (bufAt s t).reverse.find? fun e => decide (e.addr = a) with
 | none => exact rd_in h a
 | some e => exact hb e (List.mem_reverse.1 (List.mem_of_find?_eq_some hf))
theorem tsoW_ok {p : Prg} (hn : numsOk p) {s : State} (h : stQ p s) (hb : ∀ l ∈ s.bufs, ∀ e ∈ l, inR e.val) (t : Int) (f : Bool) : stQ p (tsoW p s t f).1 ∧ (tsoW p s t f).1.thr.length = s.thr.length ∧ (tsoW p s t f).1.bufs.length = s.bufs.length ∧ (tsoW p s t f).1.lock = s.lock := by
 have hbt : ∀ k, ∀ e ∈ bufAt s k, inR e.val := fun k e he => by
  unfold bufAt at he
  rw [List.getD_eq_getElem?_getD] at he
  cases hg : s.bufs[k]? with
  | none => rw [hg] at he; simp at he
  | some l => rw [hg] at he; exact hb l (List.mem_of_getElem? hg) e he
 unfold tsoW
 split
 ·obtain ⟨k, rfl⟩ : ∃ k : Nat, t = k := ⟨t.toNat, by omega⟩
  simp only [Int.toNat_natCast]
  cases hx : s.thr[k]? with
  | none => exact ⟨h, rfl, rfl, rfl⟩
  | some x =>
   have hxq := h.thr x (List.mem_of_getElem? hx)
   cases f with
   | true =>
    simp only [if_true]
    unfold flushW
    have hbk := hbt k
    cases hbb : bufAt s k with
    | nil => exact ⟨h, rfl, rfl, rfl⟩
    | cons e r =>
     rw [hbb] at hbk
     exact ⟨⟨(wrM_len ..).trans h.len, h.thr, set_in h.mem (hbk e (List.mem_cons_self ..)) _⟩, rfl, List.length_set .., rfl⟩
   | false =>
    simp only [Bool.false_eq_true, if_false]
    unfold stepB
    split
    ·exact ⟨h, rfl, rfl, rfl⟩
    split
    ·exact ⟨⟨h.len, set_in h.thr (loaded_in hxq (seen_in h.mem (hbt k) _)) _, h.mem⟩, List.length_set .., rfl, rfl⟩
    split
    ·exact ⟨⟨h.len, set_in h.thr (local_in hn hxq) _, h.mem⟩, List.length_set .., List.length_set .., rfl⟩
    ·obtain ⟨e1, e2, e3, e4⟩ := stepS_ok hn h hx
     exact ⟨e1, e2, by rw [e3], e4⟩
 ·exact ⟨h, rfl, rfl, rfl⟩
end Go.Proofs.YtnphhelbianjpaaGreatDoor
namespace Go.Proofs.YtnphhelbianjpaaGreatDoor
set_option maxRecDepth 20000
open Go Go.Proofs.YtnphhelbianjpaaGreatDoor.V Go.Proofs
abbrev MS := State × List Rg
def mW (p : Prg) (q : MS) (x : Int × Bool) : MS := ((tsoW p q.1 x.1 x.2).1, doR p q.1 q.2 x.1 x.2)
def runT (p : Prg) (q : MS) (l : List (Int × Bool)) : MS := l.foldl (mW p) q
structure mQ (p : Prg) (m : Nat) (q : MS) : Prop where
 st : stQ p q.1
 rg : rgQ q.1 q.2 m
 thr : q.1.thr.length = p.threads.length
 lock : q.1.lock = 0
theorem rgQ.inR {s : State} {R : List Rg} {m : Nat} (h : rgQ s R m) : ∀ l ∈ s.bufs, ∀ e ∈ l, inR e.val := by
 intro l hl e he
 rw [h.bufs] at hl
 obtain ⟨r, hr, rfl⟩ := List.mem_map.1 hl
 exact (h.addr r hr e he).2.2
theorem mQ.step {p : Prg} (hc : checkC p = 0) (hn : numsOk p) {m : Nat} {q : MS} (h : mQ p m q) (x : Int × Bool) : mQ p (m + 1) (mW p q x) := by
 obtain ⟨h1, h2, h3, h4⟩ := h
 obtain ⟨e1, e2, _, e4⟩ := tsoW_ok hn h1 h2.inR x.1 x.2
 exact ⟨e1, doR_ok hc hn h1 h2 x.1 x.2, e2.trans h3, e4.trans h4⟩
theorem mQ.mono {p : Prg} {m m' : Nat} {q : MS} (h : mQ p m q) (hm : m ≤ m') : mQ p m' q := by
 obtain ⟨h1, ⟨a1, a2, a3, a4, a5⟩, h3, h4⟩ := h
 exact ⟨h1, ⟨a1, a2, a3, fun r hr => by have := a4 r hr; omega, a5⟩, h3, h4⟩
theorem mQ.run {p : Prg} (hc : checkC p = 0) (hn : numsOk p) : ∀ (l : List (Int × Bool)) {m : Nat} {q : MS}, mQ p m q → mQ p (m + l.length) (runT p q l)
 | [], _, _, h => h
 | x :: l, m, q, h => by
  have := mQ.run hc hn l (h.step hc hn x)
  rw [List.length_cons, show m + (l.length + 1) = m + 1 + l.length by omega]
  exact this
theorem tsoW_f {p : Prg} {s : State} {k : Nat} (hk : k < s.thr.length) : tsoW p s (k : Int) true = flushW s k := by
 unfold tsoW
 rw [if_pos (by omega)]
 simp only [Int.toNat_natCast, List.getElem?_eq_getElem hk, if_true]
theorem tsoW_s {p : Prg} {s : State} {k : Nat} {x : Thr} (hx : s.thr[k]? = some x) : tsoW p s (k : Int) false = stepB p s k x := by
 unfold tsoW
 rw [if_pos (by omega)]
 simp only [Int.toNat_natCast, hx, Bool.false_eq_true, if_false]
theorem tsoW_out {p : Prg} {s : State} {t : Int} (h : ¬ (0 ≤ t ∧ t < (s.thr.length : Int))) (f : Bool) : tsoW p s t f = (s, false) := by
 unfold tsoW
 split
 ·rw [List.getElem?_eq_none (by omega)]
 ·rfl
theorem flushW_nil {s : State} {k : Nat} (h : bufAt s k = []) : flushW s k = (s, false) := by unfold flushW; rw [h]
theorem flushW_cons {s : State} {k : Nat} {e : Entry} {r : List Entry} (h : bufAt s k = e :: r) : flushW s k = ({ s with mem := wrM s e.addr e.val, bufs := s.bufs.set k r }, true) := by unfold flushW; rw [h]
theorem flushW_thr (s : State) (k : Nat) : (flushW s k).1.thr = s.thr ∧ (flushW s k).1.bufs.length = s.bufs.length ∧ (flushW s k).1.lock = s.lock := by
 unfold flushW
 split
 ·exact ⟨rfl, rfl, rfl⟩
 ·exact ⟨rfl, List.length_set .., rfl⟩
theorem mQ.few {p : Prg} {m : Nat} {q : MS} (h : mQ p m q) : ∀ l ∈ q.1.bufs, l.length ≤ m ∧ ∀ e ∈ l, 0 ≤ e.addr ∧ e.addr < q.1.mem.length := by
 intro l hl
 rw [h.rg.bufs] at hl
 obtain ⟨r, hr, rfl⟩ := List.mem_map.1 hl
 exact ⟨by rw [r.list_len]; exact (h.rg.few r hr).1, fun e he => ⟨(h.rg.addr r hr e he).1, (h.rg.addr r hr e he).2.1⟩⟩
theorem mQ.bufAt {p : Prg} {m : Nat} {q : MS} (h : mQ p m q) (k : Nat) : (bufAt q.1 k).length ≤ m := by
 unfold Go.Proofs.YtnphhelbianjpaaGreatDoor.bufAt
 rw [List.getD_eq_getElem?_getD]
 cases hg : q.1.bufs[k]? with
 | none => exact Nat.zero_le _
 | some l => exact (h.few l (List.mem_of_getElem? hg)).1
theorem mQ.blen {p : Prg} {m : Nat} {q : MS} (h : mQ p m q) : q.1.bufs.length = q.1.thr.length := by rw [h.rg.bufs, lM, h.rg.len]
theorem mQ.memLen {p : Prg} (hc : checkC p = 0) {m : Nat} {q : MS} (h : mQ p m q) : q.1.mem.length ≤ 1000000 := by
 obtain ⟨k1, k2, k3, _⟩ := check_syms hc
 have := start_len p.syms k3
 rw [h.st.len]; omega
theorem mQ.okS {p : Prg} (hc : checkC p = 0) {m : Nat} {q : MS} (h : mQ p m q) (hm : m ≤ 1000000000) (hp : p.threads.length ≤ 64) : okS q.1 := by
 have h1 := h.memLen hc
 have h2 := h.blen
 have h3 := h.thr
 exact ⟨by omega, by omega, by omega, fun l hl => by have := (h.few l hl).1; omega⟩
end Go.Proofs.YtnphhelbianjpaaGreatDoor
namespace Go.Proofs.YtnphhelbianjpaaGreatDoor
set_option maxRecDepth 20000
open Go Go.Proofs.YtnphhelbianjpaaGreatDoor.V Go.Proofs
section
attribute [local irreducible] TwS TwR thenT inBlockT retT nextW localW loadedW swapW Rg.push Rg.pop
variable {G : World → Prop}
end
end Go.Proofs.YtnphhelbianjpaaGreatDoor
namespace Go.Proofs.YtnphhelbianjpaaGreatDoor
set_option maxRecDepth 20000
open Go Go.Proofs.YtnphhelbianjpaaGreatDoor.V Go.Proofs
section
attribute [local irreducible] TwS TwR thenT inBlockT retT nextW localW loadedW swapW Rg.push Rg.pop tsoW doR
variable {G : World → Prop}
end
end Go.Proofs.YtnphhelbianjpaaGreatDoor
namespace Go.Proofs.YtnphhelbianjpaaGreatDoor
set_option maxRecDepth 20000
open Go Go.Proofs.YtnphhelbianjpaaGreatDoor.V Go.Proofs
def cPick (x : Int × Bool) : List TV := [tI x.1, tB x.2]
section
attribute [local irreducible] TwS TwR thenT inBlockT retT nextW localW loadedW swapW Rg.push Rg.pop tsoW doR
variable {G : World → Prop}
end
end Go.Proofs.YtnphhelbianjpaaGreatDoor
namespace Go.Proofs.YtnphhelbianjpaaGreatDoor
set_option maxRecDepth 20000
open Go Go.Proofs.YtnphhelbianjpaaGreatDoor.V Go.Proofs
def startT (p : Prg) : State := { start0 p with bufs := List.replicate p.threads.length [] }
def beginM (p : Prg) : MS := (startT p, List.replicate p.threads.length Rg.new)
theorem beginM_ok {p : Prg} (hq : stQ p (start0 p)) : mQ p 0 (beginM p) := by
 refine ⟨⟨hq.len, hq.thr, hq.mem⟩, ⟨?_, ?_, ?_, ?_, ?_⟩, ?_, rfl⟩
 ·show List.replicate _ _ = List.map _ (List.replicate _ _)
  rw [List.map_replicate]; rfl
 ·show (List.replicate _ _).length = (List.replicate _ _).length
  rw [List.length_replicate, List.length_replicate]
 ·intro r hr; rw [(List.mem_replicate.1 hr).2]; exact Rg.new_ok
 ·intro r hr; rw [(List.mem_replicate.1 hr).2]; exact ⟨Nat.le_refl _, Nat.zero_le _⟩
 ·intro r hr; rw [(List.mem_replicate.1 hr).2]; intro e he; cases he
 ·show (List.replicate _ _).length = _
  rw [List.length_replicate]
section
attribute [local irreducible] TwS TwR thenT inBlockT retT nextW localW loadedW swapW Rg.push Rg.pop
variable {G : World → Prop}
end
end Go.Proofs.YtnphhelbianjpaaGreatDoor
namespace Go.Proofs.YtnphhelbianjpaaGreatDoor
set_option maxRecDepth 20000
open Go Go.Proofs.YtnphhelbianjpaaGreatDoor.V Go.Proofs
theorem mQ.split {p : Prg} {m m' : Nat} {q q' : MS} (h : mQ p m q) (h' : mQ p m' q') (h3 : p.threads.length ≤ 3) : ∃ s R, q = (s, R) ∧ R.length = q'.2.length ∧ R.length ≤ 3 := by
 have e1 := h.rg.len
 have e2 := h.thr
 have e3 := h'.rg.len
 have e4 := h'.thr
 exact ⟨q.1, q.2, rfl, by omega, by omega⟩
section
attribute [local irreducible] TwS TwR thenT inBlockT retT nextW localW loadedW swapW Rg.push Rg.pop tsoW doR
variable {G : World → Prop}
end
end Go.Proofs.YtnphhelbianjpaaGreatDoor
