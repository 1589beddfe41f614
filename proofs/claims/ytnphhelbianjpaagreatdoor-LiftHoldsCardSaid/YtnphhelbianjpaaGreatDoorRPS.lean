/-
  Walks of functions of the program, and what the laws need of them.
-/
import Derived.Test.YtnphhelbianjpaaGreatDoorRPL
import Derived.Test.YtnphhelbianjpaaGreatDoorVI
import Derived.Test.YtnphhelbianjpaaGreatDoorRPI
import Derived.Test.YtnphhelbianjpaaGreatDoorRPH
import Derived.Test.YtnphhelbianjpaaGreatDoorRPN
set_option linter.all false
set_option linter.unusedSimpArgs false
set_option linter.unusedVariables false
set_option linter.unnecessarySimpa false
namespace Go.Proofs.YtnphhelbianjpaaGreatDoor
set_option maxRecDepth 20000
open Go Go.Proofs.YtnphhelbianjpaaGreatDoor.V Go.Proofs
structure Ev where
 th : Int
 ins : Int
 kind : Int
 addr : Int
 frm : Int
 place : Int
structure Tr where
 s : State
 es : List Ev
 W : List (List (Int × Int))
 wm : List (Int × Int)
 n : Nat
def lastA (l : List (Int × Int)) (a : Int) : Option Int := (l.reverse.find? fun e => decide (e.1 = a)).map (·.2)
def frmW (r : Tr) (t : Nat) (a : Int) : Int := (lastA (r.W.getD t []) a).getD ((lkI a r.wm).getD (-1))
def setP (es : List Ev) (k : Nat) (n : Int) : List Ev := match es[k]? with
 | some e => es.set k { e with place := n }
 | none => es
def wrT (r : Tr) (a : Int) (k : Nat) : Tr := { r with es := setP r.es k r.n, n := r.n + 1, wm := putI a k r.wm }
def evOf (p : Prg) (r : Tr) (t : Nat) (x : Thr) : Ev :=
 let d := nextW p t x
 ⟨t, x.pc, d.kind, if d.kind = 2 ∨ d.kind = 3 ∨ d.kind = 4 then d.addr else -1, if d.kind = 2 ∨ d.kind = 4 then frmW r t d.addr else -1, -1⟩
def doT (p : Prg) (r : Tr) (t : Nat) (x : Thr) (f : Bool) : Tr :=
 let r' : Tr := { r with s := (tsoW p r.s t f).1 }
 if f = true then (match r.W.getD t [] with
  | [] => r'
  | (a, k) :: w => wrT { r' with W := r.W.set t w } a k.toNat)
 else
  let e := evOf p r t x
  let r1 : Tr := { r' with es := r.es ++ [e] }
  if e.kind = 3 then { r1 with W := r.W.set t (r.W.getD t [] ++ [(e.addr, (r.es.length : Int))]) }
  else if e.kind = 4 ∧ (swapW p t x (rdM r.s e.addr)).2.2 = true then wrT r1 e.addr r.es.length
  else r1
def trS (p : Prg) (r : Tr) (x : Pk) : Tr := if (tsoW p r.s x.1 x.2).2 = true then (match r.s.thr[x.1.toNat]? with
 | some y => doT p r x.1.toNat y x.2
 | none => r) else r
structure tQ (p : Prg) (r : Tr) : Prop where
 len : r.s.mem.length = (startF p.syms).length
 bl : r.s.bufs.length = r.s.thr.length
 th : r.s.thr.length = p.threads.length
 wl : r.W.length = r.s.thr.length
 bw : ∀ t : Nat, (r.W.getD t []).map (·.1) = (bufAt r.s t).map (·.addr)
 ev : ∀ t : Nat, ∀ w ∈ r.W.getD t [], ∃ (k : Nat) (e : Ev), w.2 = (k : Int) ∧ r.es[k]? = some e ∧ e.addr = w.1 ∧ e.kind = 3 ∧ e.th = (t : Int) ∧ e.place = -1
 wr : ∀ (a k : Int), lkI a r.wm = some k → ∃ (j : Nat) (e : Ev), k = (j : Int) ∧ r.es[j]? = some e ∧ e.addr = a ∧ 0 ≤ e.place
 srt : ∀ t : Nat, List.Pairwise (fun a b : Int × Int => a.2 < b.2) (r.W.getD t [])
 en : aE r.s
end Go.Proofs.YtnphhelbianjpaaGreatDoor
namespace Go.Proofs.YtnphhelbianjpaaGreatDoor
set_option maxRecDepth 20000
open Go Go.Proofs.YtnphhelbianjpaaGreatDoor.V Go.Proofs
section
variable {es : List Ev} {k i : Nat} {n : Int}
end
theorem bufAt_get {m : List Int} {th : List Thr} {B : List (List Entry)} {lk : Int} {t j : Nat} (ht : t < B.length) (w : List Entry) : bufAt ⟨m, th, B.set t w, lk⟩ j = if j = t then w else bufAt ⟨m, th, B, lk⟩ j := by
 unfold bufAt
 rw [List.getD_eq_getElem?_getD, List.getD_eq_getElem?_getD]
 by_cases h : j = t
 ·subst h; rw [List.getElem?_set_self ht, if_pos rfl]; rfl
 ·rw [List.getElem?_set_ne (fun e => h e.symm), if_neg h]
end Go.Proofs.YtnphhelbianjpaaGreatDoor
namespace Go.Proofs.YtnphhelbianjpaaGreatDoor
set_option maxRecDepth 20000
open Go Go.Proofs.YtnphhelbianjpaaGreatDoor.V Go.Proofs
def memEv (k : Int) : Prop := k = 2 ∨ k = 3 ∨ k = 4
structure tP (p : Prg) (r : Tr) : Prop where
 pl : ∀ (i : Nat) (e : Ev), r.es[i]? = some e → e.place = -1 ∨ (0 ≤ e.place ∧ e.place < r.n)
 inj : ∀ (i j : Nat) (e e' : Ev), r.es[i]? = some e → r.es[j]? = some e' → 0 ≤ e.place → e.place = e'.place → i = j
 sur : ∀ v : Nat, v < r.n → ∃ (i : Nat) (e : Ev), r.es[i]? = some e ∧ e.place = (v : Int)
 kd : ∀ (i : Nat) (e : Ev), r.es[i]? = some e → 0 ≤ e.place → e.kind = 3 ∨ e.kind = 4
 wt : ∀ (i : Nat) (e : Ev), r.es[i]? = some e → e.kind = 3 → e.place = -1 → ∃ t : Nat, e.th = (t : Int) ∧ (e.addr, (i : Int)) ∈ r.W.getD t []
 th : ∀ (i : Nat) (e : Ev), r.es[i]? = some e → 0 ≤ e.th ∧ e.th < (p.threads.length : Int)
 ord : ∀ (i j : Nat) (e e' : Ev), i < j → r.es[i]? = some e → r.es[j]? = some e' → e.th = e'.th → 0 ≤ e'.place → (e.kind = 3 → 0 ≤ e.place) ∧ e.place < e'.place
 mm : ∀ (i : Nat) (e : Ev), r.es[i]? = some e → (memEv e.kind ↔ 0 ≤ e.addr) ∧ -1 ≤ e.addr ∧ (-1 ≤ e.frm ∧ e.frm < i) ∧ (¬ (e.kind = 2 ∨ e.kind = 4) → e.frm = -1)
 fr : ∀ (i : Nat) (e : Ev), r.es[i]? = some e → 0 ≤ e.frm → ∃ w, r.es[e.frm.toNat]? = some w ∧ w.addr = e.addr ∧ (0 ≤ w.place ∨ w.kind = 3)
section
variable {p : Prg} {r : Tr}
end
end Go.Proofs.YtnphhelbianjpaaGreatDoor
namespace Go.Proofs.YtnphhelbianjpaaGreatDoor
set_option maxRecDepth 20000
open Go Go.Proofs.YtnphhelbianjpaaGreatDoor.V Go.Proofs
section
variable {p : Prg} {r : Tr}
end
end Go.Proofs.YtnphhelbianjpaaGreatDoor
namespace Go.Proofs.YtnphhelbianjpaaGreatDoor
set_option maxRecDepth 20000
open Go Go.Proofs.YtnphhelbianjpaaGreatDoor.V Go.Proofs
structure HE where
 x : Thr
 y : Thr
 v : Int
 n : Nat
def rdEv (k : Int) : Prop := k = 2 ∨ k = 4
def nextX (p : Prg) (t : Int) (x : Thr) (v : Int) : Thr := if (nextW p t x).kind = 2 then loadedW p t x v else if (nextW p t x).kind = 4 then (swapW p t x v).1 else localW p t x
def seenV (p : Prg) (s : State) (t : Nat) (x : Thr) : Int := if (nextW p t x).kind = 2 then seenW s t (nextW p t x).addr else if (nextW p t x).kind = 4 then rdM s (nextW p t x).addr else 0
def heOf (p : Prg) (r : Tr) (t : Nat) (x : Thr) : HE := ⟨x, nextX p t x (seenV p r.s t x), seenV p r.s t x, r.n⟩
def hS (p : Prg) (r : Tr) (H : List HE) (x : Pk) : List HE := if (tsoW p r.s x.1 x.2).2 = true ∧ x.2 = false then (match r.s.thr[x.1.toNat]? with
 | some y => H ++ [heOf p r x.1.toNat y]
 | none => H) else H
def hL (p : Prg) : Tr → List HE → List Pk → List HE
 | _, H, [] => H
 | r, H, x :: l => hL p (trS p r x) (hS p r H x) l
structure oH (r : Tr) (H : List HE) : Prop where
 len : H.length = r.es.length
 mono : ∀ (i j : Nat) (h h' : HE), i ≤ j → H[i]? = some h → H[j]? = some h' → h.n ≤ h'.n
 top : ∀ (i : Nat) (h : HE), H[i]? = some h → h.n ≤ r.n
 pln : ∀ (i : Nat) (e : Ev) (h : HE), r.es[i]? = some e → H[i]? = some h → 0 ≤ e.place → (h.n : Int) ≤ e.place
 lk : ∀ (i j : Nat) (e : Ev) (h : HE), i < j → r.es[i]? = some e → H[j]? = some h → e.kind = 4 → 0 ≤ e.place → e.place < h.n
 lkn : ∀ (i : Nat) (e : Ev) (h : HE), r.es[i]? = some e → H[i]? = some h → e.kind = 4 → 0 ≤ e.place → e.place = h.n
 rf : ∀ (i : Nat) (e : Ev) (h : HE), r.es[i]? = some e → H[i]? = some h → 0 ≤ e.frm → ∃ w, r.es[e.frm.toNat]? = some w ∧ (w.th = e.th ∨ (0 ≤ w.place ∧ w.place < h.n))
 own : ∀ (i j : Nat) (e e' : Ev) (h : HE), j < i → r.es[i]? = some e → r.es[j]? = some e' → H[i]? = some h → rdEv e.kind → e'.kind = 3 → e'.th = e.th → e'.addr = e.addr →
  (0 ≤ e'.place ∧ e'.place < h.n) ∨ (0 ≤ e.frm ∧ (j : Int) ≤ e.frm ∧ ∃ w, r.es[e.frm.toNat]? = some w ∧ w.th = e.th)
 old : ∀ (i j : Nat) (e e' : Ev) (h : HE), r.es[i]? = some e → r.es[j]? = some e' → H[i]? = some h → rdEv e.kind → e'.addr = e.addr → 0 ≤ e'.place → e'.place < h.n →
  0 ≤ e.frm ∧ ∃ w, r.es[e.frm.toNat]? = some w ∧ (w.place = -1 ∨ e'.place ≤ w.place)
 fnc : ∀ (i j : Nat) (e e' : Ev) (h : HE), i < j → r.es[i]? = some e → r.es[j]? = some e' → H[j]? = some h → e.th = e'.th → e.kind = 3 → (e'.kind = 4 ∨ e'.kind = 5) → 0 ≤ e.place ∧ e.place < h.n
 new : ∀ (j : Nat) (e : Ev), r.es[j]? = some e → 0 ≤ e.place → ∃ (k : Nat) (w : Ev), lkI e.addr r.wm = some (k : Int) ∧ r.es[k]? = some w ∧ w.addr = e.addr ∧ e.place ≤ w.place
theorem get_lt {α : Type} {l : List α} {x : α} {i : Nat} (h : l[i]? = some x) : i < l.length := (List.getElem?_eq_some_iff.1 h).1
structure alike (e' e : Ev) : Prop where
 th : e'.th = e.th
 ins : e'.ins = e.ins
 kind : e'.kind = e.kind
 addr : e'.addr = e.addr
 frm : e'.frm = e.frm
section
variable {p : Prg} {r : Tr} {H : List HE}
end
end Go.Proofs.YtnphhelbianjpaaGreatDoor
namespace Go.Proofs.YtnphhelbianjpaaGreatDoor
set_option maxRecDepth 20000
open Go Go.Proofs.YtnphhelbianjpaaGreatDoor.V Go.Proofs
def poE (r : Tr) (i j : Nat) : Prop := ∃ e e', r.es[i]? = some e ∧ r.es[j]? = some e' ∧ i < j ∧ e.th = e'.th
def rfE (r : Tr) (i j : Nat) : Prop := ∃ e e', r.es[i]? = some e ∧ r.es[j]? = some e' ∧ e'.frm = (i : Int)
def coE (r : Tr) (i j : Nat) : Prop := ∃ e e', r.es[i]? = some e ∧ r.es[j]? = some e' ∧ e.addr = e'.addr ∧ 0 ≤ e.place ∧ e.place < e'.place
def frE (r : Tr) (i j : Nat) : Prop := ∃ e e', r.es[i]? = some e ∧ r.es[j]? = some e' ∧ rdEv e.kind ∧ e.addr = e'.addr ∧ 0 ≤ e'.place ∧ i ≠ j ∧ ∀ w, 0 ≤ e.frm → r.es[e.frm.toNat]? = some w → w.place < e'.place
def xE (r : Tr) (i j : Nat) : Prop := (rfE r i j ∨ coE r i j ∨ frE r i j) ∧ ∀ e e', r.es[i]? = some e → r.es[j]? = some e' → e.th ≠ e'.th
def gE (r : Tr) (i j : Nat) : Prop := poE r i j ∨ xE r i j
structure finR (p : Prg) (r : Tr) (H : List HE) : Prop where
 o : oH r H
 p : tP p r
 d : ∀ (i : Nat) (e : Ev), r.es[i]? = some e → e.kind = 3 → 0 ≤ e.place
section
variable {p : Prg} {r : Tr} {H : List HE}
theorem poE.trans {i j k : Nat} (h : poE r i j) (h' : poE r j k) : poE r i k := by
 obtain ⟨a, b, h1, h2, h3, h4⟩ := h
 obtain ⟨b', c, g1, g2, g3, g4⟩ := h'
 rw [h2] at g1; cases g1
 exact ⟨a, c, h1, g2, by omega, h4.trans g4⟩
inductive Pth (r : Tr) : Nat → Nat → Nat → Prop
 | nil (a : Nat) : Pth r 0 a a
 | cons {n a b c : Nat} : gE r a b → Pth r n b c → Pth r (n + 1) a c
theorem gE.has {i j : Nat} (h : gE r i j) : ∃ e e', r.es[i]? = some e ∧ r.es[j]? = some e' := by
 rcases h with ⟨e, e', a, b, _⟩ | ⟨h, _⟩
 ·exact ⟨e, e', a, b⟩
 ·rcases h with ⟨e, e', a, b, _⟩ | ⟨e, e', a, b, _⟩ | ⟨e, e', a, b, _⟩ <;> exact ⟨e, e', a, b⟩
inductive Bk (r : Tr) (a : Nat) : Nat → Prop
 | base {c : Nat} : xE r a c → Bk r a c
 | step {c d c' : Nat} : Bk r a c → (c = d ∨ poE r c d) → xE r d c' → (∀ e e', r.es[a]? = some e → r.es[c']? = some e' → e'.th ≠ e.th) → Bk r a c'
end
end Go.Proofs.YtnphhelbianjpaaGreatDoor
namespace Go.Proofs.YtnphhelbianjpaaGreatDoor
set_option maxRecDepth 20000
open Go Go.Proofs.YtnphhelbianjpaaGreatDoor.V Go.Proofs
def zPh (x : Thr) : Thr := { x with ph := 0, la := 0 }
def shutB (s : State) (t : Nat) : Bool := decide (s.lock ≠ 0 ∧ s.lock ≠ (t : Int) + 1)
def lockedW (p : Prg) (s : State) (t : Nat) (x : Thr) : State × Bool :=
 if x.ph = 0 then ({ s with lock := (t : Int) + 1, thr := s.thr.set t { x with ph := 1 } }, true)
 else if x.ph = 1 then ({ s with thr := s.thr.set t { x with la := seenW s t (nextW p t (zPh x)).addr, ph := 2 } }, true)
 else if x.ph = 2 ∧ (swapW p t (zPh x) x.la).2.2 = true then ({ s with thr := s.thr.set t { x with ph := 3 }, bufs := s.bufs.set t (bufAt s t ++ [⟨(nextW p t (zPh x)).addr, (swapW p t (zPh x) x.la).2.1⟩]) }, true)
 else if bufAt s t ≠ [] then (s, false)
 else ({ s with thr := s.thr.set t (swapW p t (zPh x) x.la).1, lock := 0 }, true)
def plainW (p : Prg) (s : State) (t : Nat) (x : Thr) (shut : Bool) : State × Bool := if (nextW p t x).kind = 2 ∧ shut = true then (s, false) else stepB p s t x
def owW (p : Prg) (s : State) (t : Int) (f : Bool) : State × Bool := if 0 ≤ t then (match s.thr[t.toNat]? with
  | some x => if f = true then (if shutB s t.toNat = true then (s, false) else flushW s t.toNat)
   else if (nextW p t.toNat (zPh x)).kind = 4 then (if shutB s t.toNat = true then (s, false) else lockedW p s t.toNat x)
   else plainW p s t.toNat x (shutB s t.toNat)
  | none => (s, false)) else (s, false)
section
variable {p : Prg} {t : Int} {x : Thr}
end
end Go.Proofs.YtnphhelbianjpaaGreatDoor
namespace Go.Proofs.YtnphhelbianjpaaGreatDoor
set_option maxRecDepth 20000
open Go Go.Proofs.YtnphhelbianjpaaGreatDoor.V Go.Proofs
def lockR (p : Prg) (R : List Rg) (t : Nat) (x : Thr) : List Rg := match R[t]? with
 | some r => if x.ph = 2 ∧ (swapW p t (zPh x) x.la).2.2 = true then R.set t (r.push ⟨(nextW p t (zPh x)).addr, (swapW p t (zPh x) x.la).2.1⟩) else R
 | none => R
def doO (p : Prg) (s : State) (R : List Rg) (t : Int) (f : Bool) : List Rg := if 0 ≤ t then (match s.thr[t.toNat]? with
  | some x => if f = true then (if shutB s t.toNat = true then R else doR p s R t true)
   else if (nextW p t.toNat (zPh x)).kind = 4 then (if shutB s t.toNat = true then R else lockR p R t.toNat x)
   else doR p s R t false
  | none => R) else R
def heldQ (p : Prg) (s : State) : Prop := ∀ (t : Nat) (x : Thr), s.thr[t]? = some x → x.ph ≠ 0 → (nextW p t (zPh x)).kind = 4 → s.lock = (t : Int) + 1
structure oQ (p : Prg) (m : Nat) (q : MS) : Prop where
 st : stQ p q.1
 rg : rgQ q.1 q.2 m
 thr : q.1.thr.length = p.threads.length
 lock : 0 ≤ q.1.lock ∧ q.1.lock ≤ p.threads.length
 held : heldQ p q.1
theorem phB0 {i : Ins} {x : Thr} (h : phB i x = true) (h2 : partsI i ≠ 2) : x.ph = 0 := by
 unfold phB at h
 simp only [Bool.or_eq_true, Bool.and_eq_true, decide_eq_true_eq] at h
 rcases h with h | h
 ·exact h
 ·exact absurd h.2 h2
theorem partsRW {i : Ins} (h : partsI i = 2) : readsB i = true ∧ writesB i = true := by
 unfold partsI at h
 split at h
 ·split at h
  ·rename_i h1; exact ⟨h1.1, h1.2.1⟩
  ·cases h
 ·cases h
theorem doLocal_ph (i : Ins) (g : Int) (x : Thr) : (doLocal i g x).ph = x.ph := by
 unfold doLocal
 repeat' split
 all_goals rfl
theorem curI_st {p : Prg} {t : Int} {x : Thr} (h : x.st ≠ 0) : curI p t x = none := by
 unfold curI; rw [if_neg (fun hc => h hc.1)]
theorem local_held {p : Prg} {t : Int} {x : Thr} (h : (nextW p t (zPh x)).kind ≠ 4) : (localW p t x).ph = 0 ∨ (nextW p t (zPh (localW p t x))).kind ≠ 4 := by
 unfold localW
 cases hc : curI p t x with
 | none => exact .inr h
 | some i =>
  simp only
  split
  ·rename_i hb
   unfold localI
   split
   ·refine .inr ?_
    unfold nextW
    rw [curI_st (show (zPh { x with st := 2 }).st ≠ 0 by simp [zPh])]
    simp
   split
   ·rename_i h5
    refine .inl ?_
    refine phB0 hb fun h2 => ?_
    have h2 := partsRW h2
    unfold stepW at h5
    rw [if_pos (.inl h2.1)] at h5
    split at h5
    ·simp at h5
    ·repeat' split at h5
     all_goals simp at h5
   split
   ·split
    ·exact .inl rfl
    ·rename_i h1
     refine .inl ?_
     show x.ph = 0
     unfold phB at hb
     simp only [Bool.or_eq_true, Bool.and_eq_true, decide_eq_true_eq] at hb
     exact hb.resolve_right fun hc => h1 hc.1
   split
   ·rename_i h5
    refine .inl ?_
    rw [doLocal_ph]
    refine phB0 hb fun h2 => ?_
    have h2 := partsRW h2
    unfold stepW at h5
    rw [if_pos (.inl h2.1)] at h5
    split at h5
    ·simp at h5
    ·repeat' split at h5
     all_goals simp at h5
   ·exact .inr h
  ·exact .inr h
theorem loaded_held {p : Prg} {t : Int} {x : Thr} {v : Int} (h : (nextW p t (zPh x)).kind ≠ 4) : (loadedW p t x v).ph = 0 ∨ (nextW p t (zPh (loadedW p t x v))).kind ≠ 4 := by
 unfold loadedW
 cases hc : curI p t x with
 | none => exact .inr h
 | some i =>
  simp only
  split
  ·rename_i hb
   unfold loadedI
   split
   ·exact .inr h
   rename_i h2
   have h0 := phB0 hb.1 h2
   repeat' split
   all_goals exact .inl h0
  ·exact .inr h
theorem heldQ.set {p : Prg} {s s' : State} (h : heldQ p s) {t : Nat} {y : Thr} (ht : s'.thr = s.thr.set t y) (hl : ∀ k, k ≠ t → s.lock = (k : Int) + 1 → s'.lock = (k : Int) + 1) (hy : y.ph ≠ 0 → (nextW p t (zPh y)).kind = 4 → s'.lock = (t : Int) + 1) : heldQ p s' := by
 intro k x hx h0 h4
 rw [ht] at hx
 by_cases hk : k = t
 ·subst hk
  by_cases hlt : k < s.thr.length
  ·rw [List.getElem?_set_self hlt] at hx
   cases hx
   exact hy h0 h4
  ·rw [List.getElem?_eq_none (by rw [List.length_set]; omega)] at hx
   cases hx
 ·rw [List.getElem?_set_ne (fun h => hk h.symm)] at hx
  exact hl k hk (h k x hx h0 h4)
theorem rgQ.mono {s : State} {R : List Rg} {m m' : Nat} (h : rgQ s R m) (hm : m ≤ m') : rgQ s R m' := by
 obtain ⟨a1, a2, a3, a4, a5⟩ := h
 exact ⟨a1, a2, a3, fun r hr => by have := a4 r hr; omega, a5⟩
theorem rgQ.push {s : State} {R : List Rg} {m : Nat} (h : rgQ s R m) {k : Nat} {r : Rg} (hr : R[k]? = some r) {e : Entry} (he : 0 ≤ e.addr ∧ e.addr < s.mem.length ∧ Go.Proofs.YtnphhelbianjpaaGreatDoor.inR e.val) {s' : State} (e1 : s'.bufs = s.bufs.set k (bufAt s k ++ [e])) (e2 : s'.thr.length = s.thr.length) (e3 : s'.mem.length = s.mem.length) : rgQ s' (R.set k (r.push e)) (m + 1) := by
 have hrm := List.mem_of_getElem? hr
 have hb := h.at hr
 obtain ⟨h1, h2, h3, h4, h5⟩ := h
 refine ⟨by rw [e1, h1, List.map_set, Rg.push_list (h3 r hrm), hb], by rw [List.length_set, h2, e2], set_in h3 (Rg.push_ok (h3 r hrm) _) _, set_in (fun r hr => few_succ (h4 r hr)) ?_ _, ?_⟩
 ·have := h4 r hrm
  have hll := r.list_len
  unfold Rg.push
  split
  ·refine ⟨by show r.n + 1 ≤ m + 1; omega, ?_⟩
   show (List.set _ _ _).length ≤ _
   rw [List.length_set, lA, List.length_replicate]; omega
  ·refine ⟨by show r.n + 1 ≤ m + 1; omega, ?_⟩
   show (List.set _ _ _).length ≤ _
   rw [List.length_set]; omega
 ·rw [e3]
  refine set_in (Q := fun r : Rg => ∀ e ∈ r.list, 0 ≤ e.addr ∧ e.addr < s.mem.length ∧ Go.Proofs.YtnphhelbianjpaaGreatDoor.inR e.val) h5 (fun e' he' => ?_) _
  rw [Rg.push_list (h3 r hrm)] at he'
  rcases List.mem_append.1 he' with he' | he'
  ·exact h5 r hrm e' he'
  ·rw [List.mem_singleton.1 he']; exact he
end Go.Proofs.YtnphhelbianjpaaGreatDoor
namespace Go.Proofs.YtnphhelbianjpaaGreatDoor
set_option maxRecDepth 20000
open Go Go.Proofs.YtnphhelbianjpaaGreatDoor.V Go.Proofs
section
attribute [local irreducible] TwS TwR thenT inBlockT retT nextW localW loadedW swapW Rg.push Rg.pop
variable {G : World → Prop}
end
end Go.Proofs.YtnphhelbianjpaaGreatDoor
namespace Go.Proofs.YtnphhelbianjpaaGreatDoor
set_option maxRecDepth 20000
open Go Go.Proofs.YtnphhelbianjpaaGreatDoor.V Go.Proofs
section
variable {p : Prg} {s : State} {t : Nat} {x : Thr}
end
section
attribute [local irreducible] TwS TwR thenT inBlockT retT nextW localW loadedW swapW Rg.push Rg.pop
variable {G : World → Prop}
end
end Go.Proofs.YtnphhelbianjpaaGreatDoor
namespace Go.Proofs.YtnphhelbianjpaaGreatDoor
set_option maxRecDepth 20000
open Go Go.Proofs.YtnphhelbianjpaaGreatDoor.V Go.Proofs
structure aS (p : Prg) (s : State) : Prop where
 len : s.mem.length = (startF p.syms).length
 bl : s.bufs.length = s.thr.length
 la : ∀ x ∈ s.thr, x.ph = 0 → x.la = 0
 held : heldQ p s
 lock : s.lock = 0
section
variable {p : Prg} {s : State} {k : Nat} {y : Thr}
theorem phB01 {i : Ins} {x : Thr} (h : phB i x = true) : x.ph = 0 ∨ x.ph = 1 := by
 unfold phB at h
 simp only [Bool.or_eq_true, Bool.and_eq_true, decide_eq_true_eq] at h
 rcases h with h | h
 ·exact .inl h
 ·exact .inr h.1
theorem kind4_ph {t : Int} (h : (nextW p t y).kind = 4) : y.ph = 0 := by
 unfold nextW at h
 cases hc : curI p t y with
 | none => rw [hc] at h; simp at h
 | some i =>
  rw [hc] at h
  simp only at h
  split at h
  ·rename_i hb
   rcases phB01 hb with h0 | h1
   ·exact h0
   ·unfold stepW at h
    split at h
    ·split at h
     ·simp at h
     ·first | (rw [if_pos h1] at h; simp at h; done) | (simp at h; done)
    ·split at h <;> simp at h
  ·simp at h
theorem zPh_id (h : y.ph = 0) (h' : y.la = 0) : zPh y = y := by
 obtain ⟨r0, r1, r2, r3, r4, r5, r6, r7, f, pc, ph, la, st⟩ := y
 simp only at h h'
 subst h h'
 rfl
theorem local_la {t : Int} (h : y.ph = 0 → y.la = 0) : (localW p t y).ph = 0 → (localW p t y).la = 0 := by
 unfold localW
 cases hc : curI p t y with
 | none => exact h
 | some i =>
  simp only
  split
  ·unfold localI
   split
   ·exact h
   split
   ·exact h
   split
   ·split
    ·exact fun _ => rfl
    ·exact h
   split
   ·intro h0
    have e1 : (doLocal i (tgtOf p t i) y).ph = y.ph := doLocal_ph ..
    have e2 : (doLocal i (tgtOf p t i) y).la = y.la := by
     unfold doLocal
     repeat' split
     all_goals rfl
    rw [e1] at h0
    rw [e2]
    exact h h0
   ·exact h
  ·exact h
theorem loaded_la {t v : Int} (h : y.ph = 0 → y.la = 0) : (loadedW p t y v).ph = 0 → (loadedW p t y v).la = 0 := by
 unfold loadedW
 cases hc : curI p t y with
 | none => exact h
 | some i =>
  simp only
  split
  ·unfold loadedI
   split
   ·intro h0; cases h0
   repeat' split
   all_goals exact h
  ·exact h
theorem swap_la {t v : Int} : (swapW p t (zPh y) v).1.ph = 0 ∧ (swapW p t (zPh y) v).1.la = 0 := by
 unfold swapW
 cases hc : curI p t (zPh y) with
 | none => exact ⟨rfl, rfl⟩
 | some i =>
  simp only
  split
  ·unfold swapI
   repeat' split
   all_goals exact ⟨rfl, rfl⟩
  ·exact ⟨rfl, rfl⟩
theorem aS.z (h : aS p s) (hx : s.thr[k]? = some y) (h4 : (nextW p k y).kind = 4) : zPh y = y := zPh_id (kind4_ph h4) (h.la y (List.mem_of_getElem? hx) (kind4_ph h4))
theorem aS.nz (h : aS p s) (hx : s.thr[k]? = some y) (h4 : (nextW p k y).kind ≠ 4) : (nextW p k (zPh y)).kind ≠ 4 := by
 intro hc
 by_cases h0 : y.ph = 0
 ·rw [zPh_id h0 (h.la y (List.mem_of_getElem? hx) h0)] at hc
  exact h4 hc
 ·have := h.held k y hx h0 hc
  rw [h.lock] at this
  omega
theorem aS.set {s' : State} (h : aS p s) {y' : Thr} (h1 : s'.mem.length = s.mem.length) (h2 : s'.bufs.length = s.bufs.length) (h3 : s'.thr = s.thr.set k y') (h4 : s'.lock = 0) (h5 : y'.ph = 0 → y'.la = 0) (h6 : y'.ph = 0 ∨ (nextW p k (zPh y')).kind ≠ 4) : aS p s' := by
 refine ⟨h1.trans h.len, by rw [h2, h3, List.length_set]; exact h.bl, by rw [h3]; exact set_in h.la h5 _, ?_, h4⟩
 exact h.held.set h3 (fun j _ hj => by rw [h.lock] at hj; omega) fun a b => by
  rcases h6 with h6 | h6
  ·exact absurd h6 a
  ·exact absurd b h6
theorem aS.flush (h : aS p s) (k : Nat) : aS p (flushW s k).1 := by
 obtain ⟨f1, f2, f3⟩ := flushW_thr s k
 have e : (flushW s k).1.mem.length = s.mem.length := by
  unfold flushW
  split
  ·rfl
  ·exact wrM_len ..
 exact ⟨e.trans h.len, by rw [f2, f1]; exact h.bl, by rw [f1]; exact h.la, fun j y hy => by rw [f3]; exact h.held j y (by rw [← hy, f1]), f3.trans h.lock⟩
theorem aS.stepB (h : aS p s) (hx : s.thr[k]? = some y) : aS p (stepB p s k y).1 := by
 have hla := h.la y (List.mem_of_getElem? hx)
 by_cases h4 : (nextW p k y).kind = 4
 ·by_cases hb : bufAt s k = []
  ·rw [stepB_4 h4 hb]
   refine h.set (k := k) ?_ rfl rfl h.lock ?_ (.inl ?_)
   ·simp only; split
    ·exact wrM_len ..
    ·rfl
   ·rw [← h.z hx h4]; exact fun _ => swap_la.2
   ·rw [← h.z hx h4]; exact swap_la.1
  ·rw [stepB_w (.inl h4) hb]; exact h
 have hz := h.nz hx h4
 by_cases h0 : (nextW p k y).kind = 0
 ·rw [stepB_0 h0]; exact h
 by_cases h2 : (nextW p k y).kind = 2
 ·rw [stepB_2 h2]; exact h.set rfl rfl rfl h.lock (loaded_la hla) (loaded_held hz)
 by_cases h3 : (nextW p k y).kind = 3
 ·rw [stepB_3 h3]; exact h.set rfl (List.length_set ..) rfl h.lock (local_la hla) (local_held hz)
 by_cases h5 : (nextW p k y).kind = 5 ∧ bufAt s k ≠ []
 ·rw [stepB_w (.inr h5.1) h5.2]; exact h
 ·rw [stepB_5 h0 h2 h3 h4 (fun h => Classical.byContradiction fun hc => h5 ⟨h, hc⟩)]
  exact h.set rfl rfl rfl h.lock (local_la hla) (local_held hz)
theorem aS.step (h : aS p s) (x : Pk) : aS p (tsoW p s x.1 x.2).1 := by
 obtain ⟨t, f⟩ := x
 by_cases ht : 0 ≤ t ∧ t < (s.thr.length : Int)
 ·obtain ⟨k, rfl⟩ : ∃ k : Nat, t = k := ⟨t.toNat, by omega⟩
  have hkl : k < s.thr.length := by omega
  have hx : s.thr[k]? = some s.thr[k] := List.getElem?_eq_getElem hkl
  cases f with
  | true => rw [tsoW_f hkl]; exact h.flush k
  | false => rw [tsoW_s hx]; exact h.stepB hx
 ·rw [tsoW_out ht]; exact h
end
end Go.Proofs.YtnphhelbianjpaaGreatDoor
namespace Go.Proofs.YtnphhelbianjpaaGreatDoor
set_option maxRecDepth 20000
open Go Go.Proofs.YtnphhelbianjpaaGreatDoor.V Go.Proofs
section
variable {p : Prg} {s : State} {k : Nat} {y : Thr}
theorem get_set {l : List Thr} (hk : k < l.length) (y' : Thr) : (l.set k y')[k]? = some y' := List.getElem?_set_self hk
end
end Go.Proofs.YtnphhelbianjpaaGreatDoor
namespace Go.Proofs.YtnphhelbianjpaaGreatDoor
set_option maxRecDepth 20000
open Go Go.Proofs.YtnphhelbianjpaaGreatDoor.V Go.Proofs
section
attribute [local irreducible] TwS TwR thenT inBlockT retT nextW localW loadedW swapW Rg.push Rg.pop
variable {G : World → Prop}
end
end Go.Proofs.YtnphhelbianjpaaGreatDoor
namespace Go.Proofs.YtnphhelbianjpaaGreatDoor
set_option maxRecDepth 20000
open Go Go.Proofs.YtnphhelbianjpaaGreatDoor.V Go.Proofs
section
attribute [local irreducible] TwS TwR thenT inBlockT retT nextW localW loadedW swapW Rg.push Rg.pop owW doO lockedW plainW lockR doR
variable {G : World → Prop}
end
end Go.Proofs.YtnphhelbianjpaaGreatDoor
namespace Go.Proofs.YtnphhelbianjpaaGreatDoor
set_option maxRecDepth 20000
open Go Go.Proofs.YtnphhelbianjpaaGreatDoor.V Go.Proofs
section
attribute [local irreducible] TwS TwR thenT inBlockT retT nextW localW loadedW swapW Rg.push Rg.pop owW doO
variable {G : World → Prop}
end
end Go.Proofs.YtnphhelbianjpaaGreatDoor
namespace Go.Proofs.YtnphhelbianjpaaGreatDoor
set_option maxRecDepth 20000
open Go Go.Proofs.YtnphhelbianjpaaGreatDoor.V Go.Proofs
end Go.Proofs.YtnphhelbianjpaaGreatDoor
namespace Go.Proofs.YtnphhelbianjpaaGreatDoor
set_option maxRecDepth 20000
open Go Go.Proofs.YtnphhelbianjpaaGreatDoor.V Go.Proofs
section
variable {p : Prg} {s a : State} {k j : Nat} {y : Thr}
theorem bufAt_ne {r : List Entry} {m : List Int} {t : List Thr} {lk : Int} (h : j ≠ k) : bufAt ⟨m, t, s.bufs.set k r, lk⟩ j = bufAt s j := by
 unfold bufAt
 rw [List.getD_eq_getElem?_getD, List.getD_eq_getElem?_getD, List.getElem?_set_ne (fun e => h e.symm)]
def cH (p : Prg) (s a : State) (k : Nat) (y : Thr) : Prop :=
 (y.ph = 1 ∧ a.mem = s.mem ∧ a.bufs = s.bufs) ∨
 (y.ph = 2 ∧ a.mem = s.mem ∧ a.bufs = s.bufs ∧ y.la = seenW a k (nextW p k (zPh y)).addr) ∨
 (y.ph = 3 ∧ (swapW p k (zPh y) y.la).2.2 = true ∧
  ((s.bufs = a.bufs.set k (bufAt a k ++ [⟨(nextW p k (zPh y)).addr, (swapW p k (zPh y) y.la).2.1⟩]) ∧ a.mem = s.mem ∧ y.la = seenW a k (nextW p k (zPh y)).addr) ∨
   (a.bufs = s.bufs ∧ bufAt a k = [] ∧ s.mem = wrM a (nextW p k (zPh y)).addr (swapW p k (zPh y) y.la).2.1 ∧ y.la = rdM a (nextW p k (zPh y)).addr)))
structure cL (p : Prg) (s a : State) (k : Nat) (y : Thr) : Prop where
 ck : checkC p = 0
 aa : aS p a
 ae : aE a
 hy : s.thr[k]? = some y
 h4 : (nextW p k (zPh y)).kind = 4
 hl : s.lock = (k : Int) + 1
 ht : a.thr = s.thr.set k (zPh y)
 hc : cH p s a k y
def cI (p : Prg) (s a : State) : Prop := (s = a ∧ aS p a ∧ aE a) ∨ ∃ k y, cL p s a k y
theorem cL.at (h : cL p s a k y) : a.thr[k]? = some (zPh y) := by
 rw [h.ht, List.getElem?_set_self (List.getElem?_eq_some_iff.1 h.hy).1]
theorem cL.ne (h : cL p s a k y) (hj : j ≠ k) : a.thr[j]? = s.thr[j]? := by
 rw [h.ht, List.getElem?_set_ne (fun e => hj e.symm)]
theorem cL.buf (h : cL p s a k y) (hj : j ≠ k) : bufAt a j = bufAt s j := by
 rcases h.hc with ⟨_, _, e⟩ | ⟨_, _, e, _⟩ | ⟨_, _, ⟨e, _⟩ | ⟨e, _⟩⟩
 ·unfold bufAt; rw [e]
 ·unfold bufAt; rw [e]
 ·unfold bufAt
  rw [e, List.getD_eq_getElem?_getD, List.getD_eq_getElem?_getD, List.getElem?_set_ne (fun e => hj e.symm)]
 ·unfold bufAt; rw [e]
theorem cH.frame (h : cH p s a k y) (hj : j ≠ k) (c : List Entry) (t t' : List Thr) (l l' : Int) : cH p ⟨s.mem, t, s.bufs.set j c, l⟩ ⟨a.mem, t', a.bufs.set j c, l'⟩ k y := by
 have hb : ∀ (t : List Thr) (l : Int), bufAt ⟨a.mem, t, a.bufs.set j c, l⟩ k = bufAt a k := fun t l => bufAt_ne (fun e => hj e.symm)
 have hs : ∀ x, seenW ⟨a.mem, t', a.bufs.set j c, l'⟩ k x = seenW a k x := fun x => by unfold seenW; rw [hb]; rfl
 rcases h with ⟨h1, h2, h3⟩ | ⟨h1, h2, h3, h5⟩ | ⟨h1, h2, ⟨h3, h5, h6⟩ | ⟨h3, h5, h6, h7⟩⟩
 ·exact .inl ⟨h1, h2, by show a.bufs.set j c = _; rw [h3]⟩
 ·exact .inr (.inl ⟨h1, h2, by show a.bufs.set j c = _; rw [h3], by rw [hs]; exact h5⟩)
 ·refine .inr (.inr ⟨h1, h2, .inl ⟨?_, h5, by rw [hs]; exact h6⟩⟩)
  rw [hb]
  show s.bufs.set j c = (a.bufs.set j c).set k _
  rw [h3, List.set_comm _ _ (fun e => hj e.symm)]
 ·exact .inr (.inr ⟨h1, h2, .inr ⟨by show a.bufs.set j c = _; rw [h3], by rw [hb]; exact h5, h6, h7⟩⟩)
theorem cH.same (h : cH p s a k y) (t t' : List Thr) (l l' : Int) : cH p ⟨s.mem, t, s.bufs, l⟩ ⟨a.mem, t', a.bufs, l'⟩ k y := h
theorem cL.other (h : cL p s a k y) (hj : j ≠ k) {x : Thr} (hx : s.thr[j]? = some x) (h2 : (nextW p j x).kind ≠ 2) (hd : (stepB p s j x).2 = true) (h4' : (nextW p j x).kind ≠ 4) :
  (stepB p a j x).2 = true ∧ cL p (stepB p s j x).1 (stepB p a j x).1 k y ∧ (stepB p s j x).1.lock = s.lock := by
 have hb := h.buf hj
 have hxa : a.thr[j]? = some x := by rw [h.ne hj]; exact hx
 have ha' := h.aa.stepB hxa
 have he' := h.ae.stepB h.ck h.aa.len (t := j) (x := x)
 have hy' : ∀ z : Thr, (s.thr.set j z)[k]? = some y := fun z => by rw [List.getElem?_set_ne hj]; exact h.hy
 have ht' : ∀ z : Thr, a.thr.set j z = (s.thr.set j z).set k (zPh y) := fun z => by rw [h.ht, List.set_comm _ _ (fun e => hj e.symm)]
 by_cases h0 : (nextW p j x).kind = 0
 ·rw [stepB_0 h0] at hd; cases hd
 by_cases h3 : (nextW p j x).kind = 3
 ·rw [stepB_3 h3] at ha' he' ⊢
  rw [stepB_3 h3]
  exact ⟨rfl, ⟨h.ck, ha', he', hy' _, h.h4, h.hl, ht' _, by rw [hb]; exact h.hc.frame hj _ _ _ _ _⟩, rfl⟩
 by_cases h5 : (nextW p j x).kind = 5 ∧ bufAt s j ≠ []
 ·rw [stepB_w (.inr h5.1) h5.2] at hd; cases hd
 ·have g5 : (nextW p j x).kind = 5 → bufAt s j = [] := fun h => Classical.byContradiction fun hc => h5 ⟨h, hc⟩
  rw [stepB_5 h0 h2 h3 h4' (fun h => by rw [hb]; exact g5 h)] at ha' he' ⊢
  rw [stepB_5 h0 h2 h3 h4' g5]
  exact ⟨rfl, ⟨h.ck, ha', he', hy' _, h.h4, h.hl, ht' _, h.hc.same _ _ _ _⟩, rfl⟩
end
end Go.Proofs.YtnphhelbianjpaaGreatDoor
namespace Go.Proofs.YtnphhelbianjpaaGreatDoor
set_option maxRecDepth 20000
open Go Go.Proofs.YtnphhelbianjpaaGreatDoor.V Go.Proofs
abbrev ZT := List (Int × Int × HE)
def prH (es : List Ev) (H : List HE) : ZT := ((es.map fun e => (e.th, e.kind)).zip H).map fun q => (q.1.1, q.1.2, q.2)
def xAt (Z : ZT) (t : Int) : Nat → Thr
 | 0 => zThr
 | i + 1 => match Z[i]? with
  | some z => if z.1 = t then z.2.2.y else xAt Z t i
  | none => xAt Z t i
def wvalZ (p : Prg) (z : Int × Int × HE) : Int := if z.2.1 = 3 then (nextW p z.1 z.2.2.x).val else (swapW p z.1 z.2.2.x z.2.2.v).2.1
def valAt (p : Prg) (Z : ZT) (k a : Int) : Int := if k < 0 then (startF p.syms).getD a.toNat 0 else match Z[k.toNat]? with
 | some z => wvalZ p z
 | none => 0
structure sH (p : Prg) (r : Tr) (H : List HE) : Prop where
 ev : ∀ (i : Nat) (e : Ev) (h : HE), r.es[i]? = some e → H[i]? = some h → e.ins = h.x.pc ∧ e.kind = (nextW p e.th h.x).kind ∧ e.kind ≠ 0 ∧ (memEv e.kind → e.addr = (nextW p e.th h.x).addr) ∧ h.y = nextX p e.th h.x h.v ∧
  (rdEv e.kind → h.v = valAt p (prH r.es H) e.frm e.addr) ∧ (e.kind = 4 → ((swapW p e.th h.x h.v).2.2 = true ↔ 0 ≤ e.place))
 ch : ∀ (i : Nat) (e : Ev) (h : HE), r.es[i]? = some e → H[i]? = some h → h.x = xAt (prH r.es H) e.th i
 cur : ∀ t : Nat, t < r.s.thr.length → r.s.thr[t]? = some (xAt (prH r.es H) t r.es.length)
 mem : ∀ a : Nat, a < r.s.mem.length → r.s.mem[a]? = some (valAt p (prH r.es H) ((lkI a r.wm).getD (-1)) a)
 buf : ∀ t : Nat, bufAt r.s t = (r.W.getD t []).map fun q => (⟨q.1, valAt p (prH r.es H) q.2 q.1⟩ : Entry)
section
variable {p : Prg} {r : Tr} {H : List HE}
end
end Go.Proofs.YtnphhelbianjpaaGreatDoor
namespace Go.Proofs.YtnphhelbianjpaaGreatDoor
set_option maxRecDepth 20000
open Go Go.Proofs.YtnphhelbianjpaaGreatDoor.V Go.Proofs
def wB (l : List Int) (y : Thr) : Thr := { y with pc := backW l y.pc }
structure wAt (l : List Int) (ins : List Ins) (y : Thr) (n : Nat) (b : Bool) : Prop where
 le : n ≤ ins.length
 fen : b = true → (n : Int) ∈ l ∧ y.ph = 0 ∧ y.pc = (entN l n : Nat)
 ins : b = false → y.pc = ((entN l n + if (n : Int) ∈ l then 1 else 0 : Nat) : Int)
structure wvQ (l : List Int) (ins : List Ins) : Prop where
 rs : rises l
 lt : ∀ a ∈ l, a < ins.length
 few : ins.length ≤ 1000000000
theorem cutN_le (l : List Int) : ∀ (n k : Nat), cutN l k n ≤ n
 | 0, _ => Nat.le_refl _
 | n + 1, k => by
  have := cutN_le l n (k + 1)
  rw [cutN]; split <;> omega
section
variable {p : Prg} {pts : List (List Int)} {t : Nat} {ins : List Ins} {l : List Int} {y z : Thr} {n : Nat} {b : Bool}
theorem wAt.back (hl : wvQ l ins) (h : wAt l ins y n b) : backW l y.pc = n := by
 cases b with
 | true => rw [(h.fen rfl).2.2]; exact back_ent hl.rs n
 | false =>
  rw [h.ins rfl]
  split
  ·rename_i hn; exact (back_ent1 hl.rs hn).1
  ·exact back_ent hl.rs n
theorem wAt.isF (hl : wvQ l ins) (h : wAt l ins y n b) : b = true ↔ y.pc ∈ fenF 0 l := by
 cases b with
 | true => exact ⟨fun _ => (fen_iff hl.rs _).2 ⟨n, (h.fen rfl).1, (h.fen rfl).2.2⟩, fun _ => rfl⟩
 | false =>
  refine ⟨fun e => (by cases e), fun hf => ?_⟩
  rw [h.ins rfl] at hf
  split at hf
  ·rename_i hn; exact absurd hf (back_ent1 hl.rs hn).2
  ·rename_i hn
   obtain ⟨m, hm, e⟩ := (fen_iff hl.rs _).1 hf
   have : n = m := entN_inj l (by omega)
   subst this; exact absurd hm hn
theorem wAt.uniq (hl : wvQ l ins) {n' : Nat} {b' : Bool} (h : wAt l ins y n b) (h' : wAt l ins y n' b') : n = n' ∧ b = b' := by
 have e1 := h.back hl
 have e2 := h'.back hl
 refine ⟨by omega, ?_⟩
 have := (h.isF hl).trans (h'.isF hl).symm
 cases b <;> cases b' <;> simp_all
theorem wAt.same (h : wAt l ins y n false) (e : z.pc = y.pc) : wAt l ins z n false := ⟨h.le, fun e => (by cases e), fun _ => by rw [e]; exact h.ins rfl⟩
theorem wAt.to (h : wAt l ins y n b) {m : Nat} (hm : m ≤ ins.length) (hph : z.ph = 0) (e : z.pc = (entN l m : Nat)) : ∃ b', wAt l ins z m b' := by
 by_cases hx : (m : Int) ∈ l
 ·exact ⟨true, hm, fun _ => ⟨hx, hph, e⟩, fun e => (by cases e)⟩
 ·exact ⟨false, hm, fun e => (by cases e), fun _ => by rw [if_neg hx]; exact e⟩
theorem wAt.inc (hl : wvQ l ins) (h : wAt l ins z n false) (hn : n < ins.length) (hph : z.ph = 0) : wB l (incP z) = incP (wB l z) ∧ ∃ m b', wAt l ins (incP z) m b' := by
 have hc := cutN_le l n 0
 have hf := hl.few
 have he : entN l n = n + cutN l 0 n := rfl
 have hb := h.back hl
 have h2 : z.pc + 1 = (entN l (n + 1) : Nat) := by rw [h.ins rfl, entN_succ]; omega
 have h3 : (incP z).pc = (entN l (n + 1) : Nat) := by
  show i64 (z.pc + 1) = _
  rw [h2]
  exact w64 (by
   have := cutN_le l (n + 1) 0
   have : entN l (n + 1) = (n + 1) + cutN l 0 (n + 1) := rfl
   omega)
 have h4 := back_ent hl.rs (n + 1)
 have h5 : incP (wB l z) = { z with pc := ((n : Int) + 1) } := by
  show ({ z with pc := i64 (backW l z.pc + 1) } : Thr) = _
  rw [hb]
  have : i64 ((n : Int) + 1) = (n : Int) + 1 := w64 (by omega)
  rw [this]
 refine ⟨?_, n + 1, h.to (by omega) hph h3⟩
 rw [h5]
 show ({ z with pc := backW l (incP z).pc } : Thr) = _
 rw [h3, h4]; rfl
theorem cur_fence (ht : p.threads[t]? = some ins) (hp : pts.getD t [] = l) (hl : wvQ l ins) (h : wAt l ins y n true) (hs : y.st = 0) : ∃ ls, curI (wvP p pts) t y = some (fenI ls) := by
 obtain ⟨h1, h2, h3⟩ := h.fen rfl
 have hn := hl.lt _ h1
 have hn : n < ins.length := by omega
 have hi : ins[n]? = some ins[n] := List.getElem?_eq_getElem hn
 have := (wvL_at l ins 0 n _ hi).1
 rw [Nat.zero_add, if_pos h1] at this
 refine ⟨ins[n].labels, ?_⟩
 unfold curI
 rw [if_pos ⟨hs, by rw [h3]; omega⟩, getT_wv, ht, hp, h3]
 exact this
theorem cur_ins (ht : p.threads[t]? = some ins) (hp : pts.getD t [] = l) (hl : wvQ l ins) (h : wAt l ins y n false) : curI (wvP p pts) t y = (curI p t (wB l y)).map fun i => if (n : Int) ∈ l then bareI i else i := by
 have hb := h.back hl
 have hpc := h.ins rfl
 unfold curI
 by_cases hs : y.st = 0
 ·rw [if_pos ⟨hs, by rw [hpc]; omega⟩, if_pos ⟨hs, by show (0 : Int) ≤ backW l y.pc; rw [hb]; omega⟩, getT_wv, getT_nat, ht, hp]
  show (wvL l 0 ins)[y.pc.toNat]? = (ins[(backW l y.pc).toNat]?).map _
  rw [hb, Int.toNat_natCast]
  by_cases hn : n < ins.length
  ·have hi : ins[n]? = some ins[n] := List.getElem?_eq_getElem hn
   have := wvL_at l ins 0 n _ hi
   rw [Nat.zero_add] at this
   rw [hi, hpc, Int.toNat_natCast]
   show _ = some (if (n : Int) ∈ l then bareI ins[n] else ins[n])
   by_cases hx : (n : Int) ∈ l
   ·rw [if_pos hx, if_pos hx]
    exact this.2 hx
   ·have h1 := this.1
    rw [if_neg hx] at h1
    rw [if_neg hx, if_neg hx]
    exact h1
  ·have hne : n = ins.length := by have := h.le; omega
   have hx : (n : Int) ∉ l := fun hx => by have := hl.lt _ hx; omega
   rw [hpc, if_neg hx, Int.toNat_natCast, List.getElem?_eq_none (by rw [wvL_len, hne]; exact Nat.le_refl _), List.getElem?_eq_none (by omega)]
   rfl
 ·rw [if_neg (fun h => hs h.1), if_neg (fun h => hs h.1)]; rfl
theorem cur_lt (ht : p.threads[t]? = some ins) (hl : wvQ l ins) (h : wAt l ins y n b) {i : Ins} (hi : curI p t (wB l y) = some i) : n < ins.length ∧ y.st = 0 := by
 have hb := h.back hl
 unfold curI at hi
 split at hi
 ·rename_i hc
  rw [getT_nat, ht] at hi
  have hi : ins[(backW l y.pc).toNat]? = some i := hi
  rw [hb, Int.toNat_natCast] at hi
  exact ⟨(List.getElem?_eq_some_iff.1 hi).1, hc.1⟩
 ·cases hi
theorem next_fence (ht : p.threads[t]? = some ins) (hp : pts.getD t [] = l) (hl : wvQ l ins) (h : wAt l ins y n true) : nextW (wvP p pts) t y = if y.st = 0 then ⟨5, 0, 0⟩ else ⟨0, 0, 0⟩ := by
 split
 ·rename_i hs
  obtain ⟨ls, hc⟩ := cur_fence ht hp hl h hs
  unfold nextW
  rw [hc]
  have hph : phB (fenI ls) y = true := by unfold phB; rw [(h.fen rfl).2.1]; rfl
  simp only
  rw [if_pos hph]
  rfl
 ·rename_i hs
  unfold nextW
  rw [curI_st hs]
theorem local_fence (ht : p.threads[t]? = some ins) (hp : pts.getD t [] = l) (hl : wvQ l ins) (h : wAt l ins y n true) (hs : y.st = 0) : wB l (localW (wvP p pts) t y) = wB l y ∧ wAt l ins (localW (wvP p pts) t y) n false := by
 obtain ⟨ls, hc⟩ := cur_fence ht hp hl h hs
 obtain ⟨h1, h2, h3⟩ := h.fen rfl
 have hph : phB (fenI ls) y = true := by unfold phB; rw [h2]; rfl
 have e : localW (wvP p pts) t y = incP y := by
  unfold localW
  rw [hc]
  simp only
  rw [if_pos hph]
  rfl
 rw [e]
 have hcn := cutN_le l n 0
 have hf := hl.few
 have hle := h.le
 have he : entN l n = n + cutN l 0 n := rfl
 have h4 : (incP y).pc = (entN l n : Nat) + 1 := by
  show i64 (y.pc + 1) = _
  rw [h3]; exact w64 (by omega)
 refine ⟨?_, h.le, fun e => (by cases e), fun _ => by rw [h4, if_pos h1]; rfl⟩
 show ({ y with pc := backW l (incP y).pc } : Thr) = { y with pc := backW l y.pc }
 rw [h4, (back_ent1 hl.rs h1).1, h3, back_ent hl.rs]
theorem step_wv (p : Prg) (pts : List (List Int)) (l : List Int) (c : Prop) [Decidable c] (i : Ins) (y : Thr) : stepW (wvP p pts) (if c then bareI i else i) y = stepW p i (wB l y) := by split <;> rfl
theorem phB_wv (l : List Int) (c : Prop) [Decidable c] (i : Ins) (y : Thr) : phB (if c then bareI i else i) y = phB i (wB l y) := by split <;> rfl
theorem next_ins (ht : p.threads[t]? = some ins) (hp : pts.getD t [] = l) (hl : wvQ l ins) (h : wAt l ins y n false) : nextW (wvP p pts) t y = nextW p t (wB l y) := by
 unfold nextW
 rw [cur_ins ht hp hl h]
 cases curI p t (wB l y) with
 | none => rfl
 | some i =>
  simp only [Option.map_some]
  rw [phB_wv l, step_wv p pts l]
theorem parts_ph {i : Ins} (hb : phB i y = true) (h : partsI i ≠ 2) : y.ph = 0 := phB0 hb h
theorem loaded_ins (ht : p.threads[t]? = some ins) (hp : pts.getD t [] = l) (hl : wvQ l ins) (h : wAt l ins y n false) (v : Int) : wB l (loadedW (wvP p pts) t y v) = loadedW p t (wB l y) v ∧ ∃ m b', wAt l ins (loadedW (wvP p pts) t y v) m b' := by
 unfold loadedW
 rw [cur_ins ht hp hl h]
 cases hc : curI p t (wB l y) with
 | none => exact ⟨rfl, n, false, h⟩
 | some i =>
  obtain ⟨hn, _⟩ := cur_lt ht hl h hc
  simp only [Option.map_some]
  rw [phB_wv l, step_wv p pts l]
  by_cases hk : phB i (wB l y) = true ∧ (stepW p i (wB l y)).kind = 2
  ·rw [if_pos hk, if_pos hk]
   have e : loadedI (if (n : Int) ∈ l then bareI i else i) y v = loadedI i y v := by split <;> rfl
   rw [e]
   unfold loadedI
   by_cases h2 : partsI i = 2
   ·rw [if_pos h2, if_pos h2]
    exact ⟨rfl, n, false, h.same rfl⟩
   ·rw [if_neg h2, if_neg h2]
    have hph : y.ph = 0 := parts_ph (y := wB l y) hk.1 h2
    repeat' split
    all_goals exact wAt.inc hl (h.same rfl) hn hph
  ·rw [if_neg hk, if_neg hk]
   exact ⟨rfl, n, false, h⟩
theorem swap_ins (ht : p.threads[t]? = some ins) (hp : pts.getD t [] = l) (hl : wvQ l ins) (h : wAt l ins y n false) (v : Int) : wB l (swapW (wvP p pts) t y v).1 = (swapW p t (wB l y) v).1 ∧ (swapW (wvP p pts) t y v).2 = (swapW p t (wB l y) v).2 ∧ ∃ m b', wAt l ins (swapW (wvP p pts) t y v).1 m b' := by
 unfold swapW
 rw [cur_ins ht hp hl h]
 cases hc : curI p t (wB l y) with
 | none => exact ⟨rfl, rfl, n, false, h⟩
 | some i =>
  obtain ⟨hn, _⟩ := cur_lt ht hl h hc
  simp only [Option.map_some]
  rw [phB_wv l, step_wv p pts l]
  by_cases hk : phB i (wB l y) = true ∧ (stepW p i (wB l y)).kind = 4
  ·rw [if_pos hk, if_pos hk]
   have e : swapI (if (n : Int) ∈ l then bareI i else i) y v = swapI i y v := by split <;> rfl
   rw [e]
   have hph : y.ph = 0 := parts_ph (y := wB l y) hk.1 (fun h2 => by
    have h4 := step4 hk.2
    unfold partsI at h2
    split at h2
    ·split at h2
     ·rename_i hx; rw [hx.2.2] at h4; cases h4
     ·cases h2
    ·cases h2)
   unfold swapI
   by_cases c8 : i.op = 8
   ·rw [if_pos c8, if_pos c8]
    obtain ⟨g1, m, b', g2⟩ := wAt.inc hl (h.same (z := setR y i.b.reg v) rfl) hn hph
    exact ⟨g1, rfl, m, b', g2⟩
   rw [if_neg c8, if_neg c8]
   by_cases c9 : i.op = 9
   ·rw [if_pos c9, if_pos c9]
    by_cases c0 : y.r0 = v
    ·rw [if_pos c0, if_pos (show (wB l y).r0 = v from c0)]
     obtain ⟨g1, m, b', g2⟩ := wAt.inc hl (h.same (z := { y with f := (doW 7 y.r0 v).2.1 }) rfl) hn hph
     exact ⟨g1, rfl, m, b', g2⟩
    ·rw [if_neg c0, if_neg (show ¬ (wB l y).r0 = v from c0)]
     obtain ⟨g1, m, b', g2⟩ := wAt.inc hl (h.same (z := { y with f := (doW 7 y.r0 v).2.1, r0 := v }) rfl) hn hph
     exact ⟨g1, rfl, m, b', g2⟩
   ·rw [if_neg c9, if_neg c9]
    obtain ⟨g1, m, b', g2⟩ := wAt.inc hl (h.same (z := { y with f := (doW i.op v (numW i.b y)).2.1 }) rfl) hn hph
    exact ⟨g1, rfl, m, b', g2⟩
  ·rw [if_neg hk, if_neg hk]
   exact ⟨rfl, rfl, n, false, h⟩
theorem local_ins (ht : p.threads[t]? = some ins) (hp : pts.getD t [] = l) (hl : wvQ l ins) (h : wAt l ins y n false) : wB l (localW (wvP p pts) t y) = localW p t (wB l y) ∧ ∃ m b', wAt l ins (localW (wvP p pts) t y) m b' := by
 unfold localW
 rw [cur_ins ht hp hl h]
 cases hc : curI p t (wB l y) with
 | none => exact ⟨rfl, n, false, h⟩
 | some i =>
  obtain ⟨hn, _⟩ := cur_lt ht hl h hc
  simp only [Option.map_some]
  rw [phB_wv l]
  by_cases hb : phB i (wB l y) = true
  ·rw [if_pos hb, if_pos hb]
   have e : localI (wvP p pts) t (if (n : Int) ∈ l then bareI i else i) y = if (stepW p i y).kind = 6 then { y with st := 2 } else if (stepW p i y).kind = 5 then incP y
     else if (stepW p i y).kind = 3 then (if y.ph = 1 then incP { y with f := (doW i.op y.la (numW i.b y)).2.1, ph := 0, la := 0 } else incP y)
     else if (stepW p i y).kind = 1 then doLocal i ((entN l (tgtOf p t i).toNat : Nat) : Int) y else y := by
    have e1 : tgtOf (wvP p pts) t (if (n : Int) ∈ l then bareI i else i) = ((entN l (tgtOf p t i).toNat : Nat) : Int) := by
     rw [← hp]
     split
     ·exact (tgt_wv pts ht (bareI i)).trans rfl
     ·exact tgt_wv pts ht i
    unfold localI
    rw [e1, step_wv p pts l]
    by_cases hx : (n : Int) ∈ l
    ·rw [if_pos hx]; rfl
    ·rw [if_neg hx]; rfl
   rw [e]
   unfold localI
   show wB l (if (stepW p i y).kind = 6 then _ else _) = (if (stepW p i y).kind = 6 then _ else _) ∧ _
   by_cases k6 : (stepW p i y).kind = 6
   ·rw [if_pos k6, if_pos k6]; exact ⟨rfl, n, false, h.same rfl⟩
   rw [if_neg k6, if_neg k6]
   by_cases k5 : (stepW p i y).kind = 5
   ·rw [if_pos k5]
    show _ = (if (stepW p i y).kind = 5 then _ else _) ∧ _
    rw [if_pos k5]
    have hph : y.ph = 0 := parts_ph (y := wB l y) hb (fun h2 => by
     have := (partsRW h2).1
     unfold stepW at k5
     rw [if_pos (.inl this)] at k5
     repeat' split at k5
     all_goals cases k5)
    exact wAt.inc hl h hn hph
   rw [if_neg k5]
   show _ = (if (stepW p i y).kind = 5 then _ else _) ∧ _
   rw [if_neg k5]
   by_cases k3 : (stepW p i y).kind = 3
   ·rw [if_pos k3]
    show _ = (if (stepW p i y).kind = 3 then (if y.ph = 1 then _ else _) else _) ∧ _
    rw [if_pos k3]
    by_cases h1 : y.ph = 1
    ·rw [if_pos h1, if_pos h1]
     exact wAt.inc hl (h.same rfl) hn rfl
    ·rw [if_neg h1, if_neg h1]
     have hph : y.ph = 0 := by
      unfold phB at hb
      simp only [Bool.or_eq_true, Bool.and_eq_true, decide_eq_true_eq] at hb
      rcases hb with hb | hb
      ·exact hb
      ·exact absurd hb.1 h1
     exact wAt.inc hl h hn hph
   rw [if_neg k3]
   show _ = (if (stepW p i y).kind = 3 then (if y.ph = 1 then _ else _) else _) ∧ _
   rw [if_neg k3]
   by_cases k1 : (stepW p i y).kind = 1
   ·rw [if_pos k1]
    show _ = (if (stepW p i y).kind = 1 then _ else _) ∧ _
    rw [if_pos k1]
    have hph : y.ph = 0 := parts_ph (y := wB l y) hb (fun h2 => step1 k1 (.inl (partsRW h2).1))
    obtain ⟨t0, t1⟩ := tgt_range ht i
    unfold doLocal
    by_cases o14 : i.op = 14
    ·rw [if_pos o14, if_pos o14]; exact ⟨rfl, n, false, h.same rfl⟩
    rw [if_neg o14, if_neg o14]
    by_cases oj : i.op = 10 ∨ (i.op = 11 ∧ holdsW i.cond y.f = true)
    ·rw [if_pos oj, if_pos (show i.op = 10 ∨ (i.op = 11 ∧ holdsW i.cond (wB l y).f = true) from oj)]
     refine ⟨?_, (tgtOf p t i).toNat, h.to (z := { y with pc := ((entN l (tgtOf p t i).toNat : Nat) : Int) }) (by omega) hph rfl⟩
     show ({ y with pc := backW l ((entN l (tgtOf p t i).toNat : Nat) : Int) } : Thr) = { y with pc := tgtOf p t i }
     rw [back_ent hl.rs, Int.toNat_of_nonneg t0]
    rw [if_neg oj, if_neg (show ¬ (i.op = 10 ∨ (i.op = 11 ∧ holdsW i.cond (wB l y).f = true)) from oj)]
    by_cases o1 : i.op = 1
    ·rw [if_pos o1, if_pos o1]; exact wAt.inc hl (h.same rfl) hn hph
    rw [if_neg o1, if_neg o1]
    by_cases o2 : 2 ≤ i.op ∧ i.op ≤ 7
    ·rw [if_pos o2, if_pos o2]; exact wAt.inc hl (h.same rfl) hn hph
    rw [if_neg o2, if_neg o2]
    exact wAt.inc hl h hn hph
   rw [if_neg k1]
   show _ = (if (stepW p i y).kind = 1 then _ else _) ∧ _
   rw [if_neg k1]
   exact ⟨rfl, n, false, h⟩
  ·rw [if_neg hb, if_neg hb]
   exact ⟨rfl, n, false, h⟩
end
end Go.Proofs.YtnphhelbianjpaaGreatDoor
namespace Go.Proofs.YtnphhelbianjpaaGreatDoor
set_option maxRecDepth 20000
open Go Go.Proofs.YtnphhelbianjpaaGreatDoor.V Go.Proofs
theorem fen_step (syms : List Sym) (ls : List ByteArray) : insStep syms (fenI ls) = 0 := rfl
theorem wvL_mem {l : List Int} : ∀ {t : List Ins} {k : Nat} {i : Ins}, i ∈ wvL l k t → (∃ j ∈ t, i = fenI j.labels) ∨ ∃ j ∈ t, i = j ∨ i = bareI j
 | [], _, _, h => by rw [wvL] at h; cases h
 | x :: t, k, i, h => by
  have key : i ∈ wvL l (k + 1) t → (∃ j ∈ x :: t, i = fenI j.labels) ∨ ∃ j ∈ x :: t, i = j ∨ i = bareI j := fun h => by
   rcases wvL_mem h with ⟨j, h1, h2⟩ | ⟨j, h1, h2⟩
   ·exact .inl ⟨j, List.mem_cons_of_mem _ h1, h2⟩
   ·exact .inr ⟨j, List.mem_cons_of_mem _ h1, h2⟩
  rw [wvL] at h
  split at h
  ·rcases List.mem_cons.1 h with rfl | h
   ·exact .inl ⟨x, List.mem_cons_self .., rfl⟩
   ·rcases List.mem_cons.1 h with rfl | h
    ·exact .inr ⟨x, List.mem_cons_self .., .inr rfl⟩
    ·exact key h
  ·rcases List.mem_cons.1 h with rfl | h
   ·exact .inr ⟨i, List.mem_cons_self .., .inl rfl⟩
   ·exact key h
theorem wvL_count (l : List Int) : ∀ (t : List Ins) (k : Nat), countN (wvL l k t) = countN t
 | [], _ => by rw [wvL]
 | x :: t, k => by
  have h := wvL_count l t (k + 1)
  unfold countN at h ⊢
  rw [wvL]
  split
  ·have e : (!decide ((fenI x.labels).op = 12)) = false := rfl
   rw [List.filter_cons, e, if_neg (by decide), List.filter_cons, List.filter_cons]
   show (if (!decide (x.op = 12)) = true then _ else _ : List Ins).length = _
   split
   ·rw [List.length_cons, List.length_cons, h]
   ·exact h
  ·rw [List.filter_cons, List.filter_cons]
   split
   ·rw [List.length_cons, List.length_cons, h]
   ·exact h
theorem wvL_ins (syms : List Sym) (l : List Int) : ∀ (t : List Ins) (k : Nat) (seen : List ByteArray), (insC syms seen t).1 = 0 → insC syms seen (wvL l k t) = insC syms seen t
 | [], _, _, _ => by rw [wvL]
 | x :: t, k, seen, h => by
  simp only [insC] at h
  split at h
  ·rename_i h1
   split at h
   ·rename_i h2
    have ih := wvL_ins syms l t (k + 1) _ h
    rw [wvL]
    split
    ·rw [insC, show (fenI x.labels).labels = x.labels from rfl, if_pos h1, fen_step, if_pos rfl, insC, show labsC (labsC seen x.labels).2 (bareI x).labels = (0, (labsC seen x.labels).2) from rfl]
     rw [if_pos rfl, show insStep syms (bareI x) = insStep syms x from rfl, if_pos h2, ih]
     rw [insC, if_pos h1, if_pos h2]
    ·rw [insC, if_pos h1, if_pos h2, ih, insC, if_pos h1, if_pos h2]
   ·contradiction
  ·contradiction
theorem wvL_ne {l : List Int} {k : Nat} {t : List Ins} (h : t ≠ []) : wvL l k t ≠ [] := by
 cases t with
 | nil => exact absurd rfl h
 | cons x t => rw [wvL]; split <;> simp
theorem lastB_cons {x : Ins} {t : List Ins} (h : t ≠ []) : lastB (x :: t) = lastB t := by
 unfold lastB
 cases t with
 | nil => exact absurd rfl h
 | cons y t => rw [List.getLast?_cons_cons]
theorem wvL_last (l : List Int) : ∀ (t : List Ins) (k : Nat), lastB (wvL l k t) = lastB t
 | [], _ => by rw [wvL]
 | [x], k => by
  rw [wvL, wvL]
  split
  ·rfl
  ·rfl
 | x :: y :: t, k => by
  have ih := wvL_last l (y :: t) (k + 1)
  have hn : wvL l (k + 1) (y :: t) ≠ [] := wvL_ne (by simp)
  rw [lastB_cons (x := x) (t := y :: t) (by simp), ← ih]
  rw [wvL]
  split
  ·rw [lastB_cons (by simp), lastB_cons hn]
  ·rw [lastB_cons hn]
theorem wvL_way (l : List Int) (seen : List ByteArray) : ∀ (t : List Ins) (k : Nat), wayB seen (wvL l k t) = wayB seen t
 | [], _ => by rw [wvL]
 | x :: t, k => by
  have ih := wvL_way l seen t (k + 1)
  unfold wayB at ih ⊢
  rw [wvL]
  split
  ·rw [List.all_cons, List.all_cons, List.all_cons, ih]
   rfl
  ·rw [List.all_cons, List.all_cons, ih]
theorem wvL_labs (l : List Int) : ∀ (t : List Ins) (k : Nat), allLabs (wvL l k t) = allLabs t
 | [], _ => by rw [wvL]
 | x :: t, k => by
  have ih := wvL_labs l t (k + 1)
  unfold allLabs at ih ⊢
  rw [wvL]
  split
  ·rw [List.flatMap_cons, List.flatMap_cons, List.flatMap_cons, ih]; rfl
  ·rw [List.flatMap_cons, List.flatMap_cons, ih]
theorem wvL_thread {syms : List Sym} {t : List Ins} (l : List Int) (h : threadC syms t = 0) : threadC syms (wvL l 0 t) = 0 := by
 unfold threadC at h ⊢
 rw [wvL_count, wvL_last]
 split at h
 ·cases h
 ·rename_i h1
  rw [if_neg h1]
  split at h
  ·rename_i h2
   rw [wvL_ins syms l t 0 [] h2, if_pos h2]
   split at h
   ·rename_i h3
    rw [if_pos h3, wvL_way]
    exact h
   ·cases h
  ·contradiction
theorem wvT_ths {syms : List Sym} : ∀ (pts : List (List Int)) (ts : List (List Ins)), thsC syms ts = 0 → thsC syms (wvT pts ts) = 0
 | _, [], h => by rw [wvT]; exact h
 | [], x :: r, h => by rw [wvT_nil]; exact h
 | l :: ls, x :: r, h => by
  rw [thsC] at h
  split at h
  ·rename_i h1
   rw [wvT, thsC, if_pos (wvL_thread l h1)]
   exact wvT_ths ls r h
  ·contradiction
theorem wv_check {p : Prg} (hc : checkC p = 0) (pts : List (List Int)) : checkC (wvP p pts) = 0 := by
 unfold checkC at hc ⊢
 show (if 64 < p.syms.length ∨ 64 < (wvT pts p.threads).length then 10 else if symsC [] p.syms = 0 then thsC p.syms (wvT pts p.threads) else symsC [] p.syms) = 0
 rw [wvT_len]
 split at hc
 ·cases hc
 ·rename_i h1
  rw [if_neg h1]
  split at hc
  ·rename_i h2
   rw [if_pos h2]
   exact wvT_ths pts _ hc
  ·contradiction
theorem wvT_mem {pts : List (List Int)} {ts : List (List Ins)} {x : List Ins} (h : x ∈ wvT pts ts) : ∃ l, ∃ t ∈ ts, x = wvL l 0 t := by
 obtain ⟨n, hn⟩ := List.mem_iff_getElem?.1 h
 rw [wvT_get] at hn
 cases ht : ts[n]? with
 | none => rw [ht] at hn; cases hn
 | some t =>
  rw [ht] at hn
  cases hn
  exact ⟨_, t, List.mem_of_getElem? ht, rfl⟩
theorem wv_okP {p : Prg} (ho : okP p) (pts : List (List Int)) (hs : ∀ t ∈ p.threads, t.length ≤ 400000000) : okP (wvP p pts) := by
 obtain ⟨h1, h2, h3, h4⟩ := ho
 refine ⟨h1, h2, by show (wvT pts p.threads).length ≤ _; rw [wvT_len]; exact h3, fun x hx => ?_⟩
 obtain ⟨l, t, ht, rfl⟩ := wvT_mem hx
 obtain ⟨⟨g1, g2⟩, g3⟩ := h4 t ht
 have := hs t ht
 refine ⟨⟨?_, by rw [wvL_labs]; exact g2⟩, fun i hi => ?_⟩
 ·have := cutN_le l t.length 0
  rw [wvL_len]; omega
 ·rcases wvL_mem hi with ⟨j, hj, rfl⟩ | ⟨j, hj, rfl | rfl⟩
  ·exact ⟨by show (bs []).size ≤ _; decide, (g3 j hj).2⟩
  ·exact g3 _ hj
  ·exact ⟨(g3 j hj).1, by show ([] : List ByteArray).length ≤ _; decide, fun l hl => by cases hl⟩
theorem wv_nums {p : Prg} (hn : numsOk p) (pts : List (List Int)) : numsOk (wvP p pts) := by
 intro x hx i hi
 obtain ⟨l, t, ht, rfl⟩ := wvT_mem hx
 rcases wvL_mem hi with ⟨j, hj, rfl⟩ | ⟨j, hj, rfl | rfl⟩
 ·show inR 0; unfold inR; decide
 ·exact hn t ht _ hj
 ·exact hn t ht j hj
theorem wv_start (p : Prg) (pts : List (List Int)) : start0 (wvP p pts) = start0 p := by
 unfold start0
 show (⟨_, List.replicate (wvT pts p.threads).length zThr, _, _⟩ : State) = _
 rw [wvT_len]; rfl
end Go.Proofs.YtnphhelbianjpaaGreatDoor
namespace Go.Proofs.YtnphhelbianjpaaGreatDoor
set_option maxRecDepth 20000
open Go Go.Proofs.YtnphhelbianjpaaGreatDoor.V Go.Proofs
structure runQ (p : Prg) (pts : List (List Int)) (r : Tr) (H : List HE) : Prop where
 ck : checkC p = 0
 f : finR (wvP p pts) r H
 q : tQ (wvP p pts) r
 s : sH (wvP p pts) r H
 w : ∀ (t : Nat) (ins : List Ins), p.threads[t]? = some ins → wvQ (pts.getD t []) ins
section
variable {p : Prg} {pts : List (List Int)} {r : Tr} {H : List HE}
structure ordQ (r : Tr) (L : List Nat) : Prop where
 nd : L.Nodup
 all : ∀ i, i ∈ L ↔ i < r.es.length
 ahead : ∀ (pre suf : List Nat) (i j : Nat), L = pre ++ i :: suf → (poE r j i ∨ rfE r j i ∨ coE r j i ∨ frE r j i) → j ∈ pre
structure scI (p : Prg) (pts : List (List Int)) (r : Tr) (H : List HE) (pre : List Nat) (s : State) : Prop where
 len : s.mem.length = (startF p.syms).length
 tl : s.thr.length = p.threads.length
 bl : s.bufs = []
 lk : s.lock = 0
 thr : ∀ t : Nat, t < p.threads.length → ∃ m, m ≤ r.es.length ∧ (∀ (i : Nat) (e : Ev), r.es[i]? = some e → e.th = (t : Int) → (i ∈ pre ↔ i < m)) ∧ s.thr[t]? = some (wB (pts.getD t []) (xAt (prH r.es H) t m))
 mem : ∀ a : Nat, a < s.mem.length → ∃ k : Int, s.mem[a]? = some (valAt (wvP p pts) (prH r.es H) k a) ∧ ((k = -1 ∧ ∀ (i : Nat) (e : Ev), r.es[i]? = some e → e.addr = (a : Int) → 0 ≤ e.place → i ∉ pre) ∨
  ∃ (j : Nat) (w : Ev), k = (j : Int) ∧ r.es[j]? = some w ∧ w.addr = (a : Int) ∧ 0 ≤ w.place ∧ j ∈ pre ∧ ∀ (i : Nat) (e : Ev), r.es[i]? = some e → e.addr = (a : Int) → 0 ≤ e.place → i ∈ pre → e.place ≤ w.place)
end
end Go.Proofs.YtnphhelbianjpaaGreatDoor
namespace Go.Proofs.YtnphhelbianjpaaGreatDoor
set_option maxRecDepth 20000
open Go Go.Proofs.YtnphhelbianjpaaGreatDoor.V Go.Proofs
def followsB (i : Ins) : Bool := decide (insRight i = 0) && (!decide (i.op = 10) && !decide (i.op = 14))
def fenceB (i : Ins) : Bool := decide (insRight i = 0) && decide (i.op = 12) || lockedB i
def flowN (ins : List Ins) (n m : Nat) : Prop := ∃ i, ins[n]? = some i ∧ m < ins.length ∧ ((followsB i = true ∧ m = n + 1) ∨ (insRight i = 0 ∧ jumpB i = true ∧ findI ins i.to = some m))
inductive flowP (ins : List Ins) (s : Nat) : Nat → Prop
 | one {n : Nat} : flowN ins s n → flowP ins s n
 | more {k n : Nat} : flowP ins s k → flowN ins k n → flowP ins s n
inductive wayN (ins : List Ins) (l : List Int) (s : Nat) : Nat → Prop
 | one {n : Nat} : flowN ins s n → (n : Int) ∉ l → wayN ins l s n
 | more {k n : Nat} {i : Ins} : wayN ins l s k → ins[k]? = some i → fenceB i = false → flowN ins k n → (n : Int) ∉ l → wayN ins l s n
theorem hi_loc {i : Ins} (hr : insRight i = 0) (h : 10 ≤ i.op) : readsB i = false ∧ writesB i = false ∧ lockedB i = false := by
 have hf := form_of hr
 obtain ⟨h1, h2, h3⟩ := hf.hi h
 refine ⟨?_, ?_, ?_⟩
 ·rw [hf.reads, h1, h2]; rfl
 ·rw [hf.writes, h1]; rfl
 ·rw [hf.locked, h3]
  have : decide (i.op = 8) = false := dF (by omega)
  rw [this]; rfl
inductive pcS (P : Prg) (t : Int) (y y' : Thr) : Prop
 | same (h : y'.pc = y.pc) (hk : ((nextW P t y).kind = 2 ∧ y'.ph = 1) ∨ ((nextW P t y).kind ≠ 3 ∧ y'.st ≠ 0))
 | inc (i : Ins) (hc : curI P t y = some i) (ho : i.op ≠ 10 ∧ i.op ≠ 14) (h : y'.pc = i64 (y.pc + 1)) (hs : y'.st = y.st)
 | jump (i : Ins) (hc : curI P t y = some i) (ho : jumpB i = true) (h : y'.pc = tgtOf P t i) (hs : y'.st = y.st)
theorem next_pc {P : Prg} {t : Int} {y : Thr} {i : Ins} (hc : curI P t y = some i) (hr : insRight i = 0) (v : Int) (h0 : (nextW P t y).kind ≠ 0) : pcS P t y (nextX P t y v) := by
 have hn : nextW P t y = if phB i y = true then stepW P i y else ⟨0, 0, 0⟩ := by unfold nextW; rw [hc]
 have hb : phB i y = true := Classical.byContradiction fun hb => by rw [if_neg hb] at hn; rw [hn] at h0; exact h0 rfl
 rw [if_pos hb] at hn
 have hmem : (readsB i = true ∨ writesB i = true) → i.op ≠ 10 ∧ i.op ≠ 14 := fun h => by
  refine ⟨fun h1 => ?_, fun h1 => ?_⟩ <;>
  ·obtain ⟨a, b, _⟩ := hi_loc hr (by omega)
   rcases h with h | h
   ·rw [a] at h; cases h
   ·rw [b] at h; cases h
 have hmk : (stepW P i y).kind = 2 ∨ (stepW P i y).kind = 3 ∨ (stepW P i y).kind = 4 → i.op ≠ 10 ∧ i.op ≠ 14 := fun h => by
  refine hmem (Classical.byContradiction fun hm => ?_)
  rw [step_loc hm] at h
  split at h <;> simp at h
 unfold nextX
 by_cases k2 : (nextW P t y).kind = 2
 ·rw [if_pos k2]
  have ho := hmk (.inl (by rw [← hn]; exact k2))
  unfold loadedW
  rw [hc]
  simp only
  rw [if_pos ⟨hb, by rw [← hn]; exact k2⟩]
  unfold loadedI
  split
  ·exact .same rfl (.inl ⟨k2, rfl⟩)
  ·repeat' split
   all_goals exact .inc i hc ho rfl rfl
 rw [if_neg k2]
 by_cases k4 : (nextW P t y).kind = 4
 ·rw [if_pos k4]
  have ho := hmk (.inr (.inr (by rw [← hn]; exact k4)))
  unfold swapW
  rw [hc]
  simp only
  rw [if_pos ⟨hb, by rw [← hn]; exact k4⟩]
  unfold swapI
  repeat' split
  all_goals exact .inc i hc ho rfl rfl
 rw [if_neg k4]
 unfold localW
 rw [hc]
 simp only
 rw [if_pos hb]
 unfold localI
 by_cases k6 : (stepW P i y).kind = 6
 ·rw [if_pos k6]; exact .same rfl (.inr ⟨by rw [hn]; omega, by show (2 : Int) ≠ 0; decide⟩)
 rw [if_neg k6]
 by_cases k5 : (stepW P i y).kind = 5
 ·rw [if_pos k5]
  refine .inc i hc ?_ rfl rfl
  have hm : ¬ (readsB i = true ∨ writesB i = true) := fun hm => by
   unfold stepW at k5
   rw [if_pos hm] at k5
   repeat' split at k5
   all_goals cases k5
  rw [step_loc hm] at k5
  split at k5
  ·omega
  ·cases k5
 rw [if_neg k5]
 by_cases k3 : (stepW P i y).kind = 3
 ·rw [if_pos k3]
  have ho := hmk (.inr (.inl k3))
  split
  ·exact .inc i hc ho rfl rfl
  ·exact .inc i hc ho rfl rfl
 rw [if_neg k3]
 by_cases k1 : (stepW P i y).kind = 1
 ·rw [if_pos k1]
  unfold doLocal
  by_cases o14 : i.op = 14
  ·rw [if_pos o14]; exact .same rfl (.inr ⟨by rw [hn]; omega, by show (1 : Int) ≠ 0; decide⟩)
  rw [if_neg o14]
  by_cases oj : i.op = 10 ∨ (i.op = 11 ∧ holdsW i.cond y.f = true)
  ·rw [if_pos oj]
   refine .jump i hc ?_ rfl rfl
   unfold jumpB
   rcases oj with oj | oj
   ·rw [dT oj]; rfl
   ·rw [dT oj.1]; simp
  rw [if_neg oj]
  have ho : i.op ≠ 10 ∧ i.op ≠ 14 := ⟨fun h => oj (.inl h), o14⟩
  split
  ·exact .inc i hc ho rfl rfl
  ·split
   ·exact .inc i hc ho rfl rfl
   ·exact .inc i hc ho rfl rfl
 ·exfalso
  have := nextW_kinds P t y
  rw [hn] at this h0 k2 k4
  omega
section
variable {p : Prg} {pts : List (List Int)} {r : Tr} {H : List HE}
end
end Go.Proofs.YtnphhelbianjpaaGreatDoor
namespace Go.Proofs.YtnphhelbianjpaaGreatDoor
set_option maxRecDepth 20000
open Go Go.Proofs.YtnphhelbianjpaaGreatDoor.V Go.Proofs
structure lfI (p : Prg) (pts : List (List Int)) (s S : State) : Prop where
 mem : S.mem = s.mem
 len : s.mem.length = (startF p.syms).length
 tl : s.thr.length = p.threads.length
 Tl : S.thr.length = p.threads.length
 bl : S.bufs.length = p.threads.length
 buf : ∀ t, bufAt S t = []
 sb : s.bufs = []
 lk : s.lock = 0
 Lk : S.lock = 0
 thr : ∀ (t : Nat) (ins : List Ins), p.threads[t]? = some ins → ∃ y n, S.thr[t]? = some y ∧ s.thr[t]? = some (wB (pts.getD t []) y) ∧ wAt (pts.getD t []) ins y n false
section
variable {p : Prg} {pts : List (List Int)} {s S : State}
theorem fence_on {t : Nat} {ins : List Ins} {y : Thr} {n : Nat} (hw : wvQ (pts.getD t []) ins) (ht : p.threads[t]? = some ins) (hy : S.thr[t]? = some y) (hb : bufAt S t = []) (hat : wAt (pts.getD t []) ins y n true) (hst : y.st = 0) :
  ∃ y', tsoW (wvP p pts) S t false = ({ S with thr := S.thr.set t y' }, true) ∧ wB (pts.getD t []) y' = wB (pts.getD t []) y ∧ wAt (pts.getD t []) ins y' n false := by
 have hnx := next_fence ht rfl hw hat
 rw [if_pos hst] at hnx
 obtain ⟨g1, g2⟩ := local_fence ht rfl hw hat hst
 refine ⟨_, ?_, g1, g2⟩
 rw [tsoW_s hy]
 exact stepB_5 (by rw [hnx]; decide) (by rw [hnx]; decide) (by rw [hnx]; decide) (by rw [hnx]; decide) fun _ => hb
theorem lf_done (h : lfI p pts s S) {t : Nat} {ins : List Ins} (ht : p.threads[t]? = some ins) {s' S' : State} {y' : Thr} {n : Nat} (hm : S'.mem = s'.mem) (hl : s'.mem.length = s.mem.length) (hT : S'.thr = S.thr.set t y') (hB : S'.bufs.length = S.bufs.length) (hbf : ∀ t, bufAt S' t = []) (hsb : s'.bufs = []) (hlk : s'.lock = 0) (hLk : S'.lock = 0)
  (hsT : s'.thr = s.thr.set t (wB (pts.getD t []) y')) (hat : wAt (pts.getD t []) ins y' n false) : lfI p pts s' S' := by
 have htl : t < p.threads.length := get_lt ht
 refine ⟨hm, hl.trans h.len, by rw [hsT, List.length_set]; exact h.tl, by rw [hT, List.length_set]; exact h.Tl, hB.trans h.bl, hbf, hsb, hlk, hLk, fun j ins' hj => ?_⟩
 by_cases hjt : j = t
 ·subst hjt
  rw [ht] at hj; cases hj
  exact ⟨y', n, by rw [hT, List.getElem?_set_self (by rw [h.Tl]; exact htl)], by rw [hsT, List.getElem?_set_self (by rw [h.tl]; exact htl)], hat⟩
 ·obtain ⟨y, m, g1, g2, g3⟩ := h.thr j ins' hj
  exact ⟨y, m, by rw [hT, List.getElem?_set_ne (fun e => hjt e.symm)]; exact g1, by rw [hsT, List.getElem?_set_ne (fun e => hjt e.symm)]; exact g2, g3⟩
theorem lf_step (hc : checkC p = 0) (ho : okP p) (hw : ∀ (t : Nat) (ins : List Ins), p.threads[t]? = some ins → wvQ (pts.getD t []) ins) (h : lfI p pts s S) (t : Int) :
  dnA (wvP p pts) S (upS p pts s t) ∧ lfI p pts (scW p s t).1 (sA (wvP p pts) S (upS p pts s t)) := by
 unfold upS
 by_cases htl : 0 ≤ t ∧ t < (s.thr.length : Int)
 ·obtain ⟨k, rfl⟩ : ∃ k : Nat, t = k := ⟨t.toNat, by omega⟩
  have hkl : k < p.threads.length := by have := h.tl; omega
  have ht : p.threads[k]? = some p.threads[k] := List.getElem?_eq_getElem hkl
  generalize p.threads[k] = ins at ht
  obtain ⟨y, n, g1, g2, g3⟩ := h.thr k ins ht
  have hwk := hw k ins ht
  have hnx := next_ins ht rfl hwk g3
  generalize hX : wB (pts.getD k []) y = X at *
  have hsc : scW p s (k : Int) = stepS p s k X := by
   unfold scW
   rw [if_pos (by omega)]
   simp only [Int.toNat_natCast, g2]
  have hbf := h.buf k
  have hse : ∀ a, seenW S k a = rdM s a := fun a => by unfold seenW rdM; rw [hbf, h.mem]; rfl
  have hrd : ∀ a, rdM S a = rdM s a := fun a => by unfold rdM; rw [h.mem]
  by_cases k0 : (nextW p k X).kind = 0
  ·have : stepS p s k X = (s, false) := by unfold stepS; rw [if_pos k0]
   rw [hsc, this, if_neg (by simp)]
   exact ⟨trivial, h⟩
  have hdn : (scW p s (k : Int)).2 = true := by
   rw [hsc]; unfold stepS
   rw [if_neg k0]
   repeat' split
   all_goals rfl
  rw [if_pos hdn]
  have hkb : k < S.bufs.length := by rw [h.bl]; exact hkl
  have hks : k < s.thr.length := by rw [h.tl]; exact hkl
  -- the thread behind the step
  obtain ⟨v, hv⟩ : ∃ v : Int, v = rdM s (nextW p k X).addr := ⟨_, rfl⟩
  have hone : wB (pts.getD k []) (nextX (wvP p pts) k y v) = nextX p k X v ∧ (swapW (wvP p pts) k y v).2 = (swapW p k X v).2 ∧ ∃ m b, wAt (pts.getD k []) ins (nextX (wvP p pts) k y v) m b := by
   have a2 := swap_ins ht rfl hwk g3 v
   rw [hX] at a2
   refine ⟨?_, a2.2.1, ?_⟩
   ·unfold nextX
    rw [hnx]
    split
    ·have := (loaded_ins ht rfl hwk g3 v).1; rw [hX] at this; exact this
    ·split
     ·exact a2.1
     ·have := (local_ins ht rfl hwk g3).1; rw [hX] at this; exact this
   ·unfold nextX
    split
    ·exact (loaded_ins ht rfl hwk g3 v).2
    ·split
     ·exact a2.2.2
     ·exact (local_ins ht rfl hwk g3).2
  obtain ⟨e1, e2, m, b, e3⟩ := hone
  generalize hY : nextX (wvP p pts) k y v = Y at *
  have hst : y.st = 0 := by
   refine Classical.byContradiction fun hn => k0 ?_
   rw [← hnx]; unfold nextW; rw [curI_st hn]
  -- is it at a laid fence?
  have hfen : (nextX p k X v).st = 0 ∧ (nextX p k X v).ph = 0 ∧ ptB pts k (nextX p k X v).pc = true ↔ b = true := by
   have hci := cur_ins ht rfl hwk g3
   rw [hX] at hci
   have hbk := e3.back hwk
   have hpc : (nextX p k X v).pc = m := by rw [← e1]; exact hbk
   have hst1 : (nextX p k X v).st = Y.st := by rw [← e1]; rfl
   have hph1 : (nextX p k X v).ph = Y.ph := by rw [← e1]; rfl
   rw [hpc, hst1, hph1]
   cases hcp : curI p k X with
   | none => exfalso; apply k0; unfold nextW; rw [hcp]
   | some I =>
    obtain ⟨_, _, _, _, _, _, _, hio⟩ := cur_ok ho hc hcp
    rw [hcp] at hci
    have hci : curI (wvP p pts) k y = some (if (n : Int) ∈ pts.getD k [] then bareI I else I) := hci
    have hri : insRight (if (n : Int) ∈ pts.getD k [] then bareI I else I) = 0 := by split <;> exact hio.right
    have hp := next_pc hci hri v (by rw [hnx]; exact k0)
    rw [hY] at hp
    have hsame : Y.pc = y.pc → b = false := fun hh => by
     have h1 : wAt (pts.getD k []) ins Y n false := g3.same hh
     exact (e3.uniq hwk h1).2
    have hnew : ∀ j : Nat, Y.pc = ((entN (pts.getD k []) j : Nat) : Int) → ((m : Int) ∈ pts.getD k [] → b = true) := fun j hj hm => by
     have hbb := e3.back hwk
     rw [hj, back_ent hwk.rs] at hbb
     have : j = m := by omega
     subst this
     cases b with
     | true => rfl
     | false =>
      have := e3.ins rfl
      rw [if_pos hm] at this
      omega
    constructor
    ·rintro ⟨q1, q2, q3⟩
     have q3 : (m : Int) ∈ pts.getD k [] := of_decide_eq_true q3
     rcases hp with ⟨a, ⟨_, a2⟩ | ⟨_, a2⟩⟩ | ⟨i', c, o, a, _⟩ | ⟨i', c, o, a, _⟩
     ·omega
     ·exact absurd q1 a2
     ·refine hnew (n + 1) ?_ q3
      have hcn := cutN_le (pts.getD k []) n 0
      have hfw := hwk.few
      have hen : entN (pts.getD k []) n = n + cutN (pts.getD k []) 0 n := rfl
      have hle := g3.le
      rw [a, g3.ins rfl, entN_succ]
      show IntKind.i64.wrap _ = _
      rw [w64 (by split <;> omega)]
      omega
     ·refine hnew (tgtOf p k I).toNat ?_ q3
      rw [hci] at c; cases c
      rw [a]
      split
      ·exact (tgt_wv pts ht (bareI I)).trans rfl
      ·exact tgt_wv pts ht I
    ·intro hb
     subst hb
     obtain ⟨q1, q2, _⟩ := e3.fen rfl
     refine ⟨?_, q2, dT q1⟩
     rcases hp with ⟨a, _⟩ | ⟨i', c, o, a, a2⟩ | ⟨i', c, o, a, a2⟩
     ·have := hsame a; cases this
     ·exact a2.trans hst
     ·exact a2.trans hst
  have main : ∃ S1, dnA (wvP p pts) S (((k : Int), false) :: if (nextW p k X).kind = 3 then [((k : Int), true)] else []) ∧ sA (wvP p pts) S (((k : Int), false) :: if (nextW p k X).kind = 3 then [((k : Int), true)] else []) = S1 ∧ S1.mem = (stepS p s k X).1.mem ∧ S1.thr = S.thr.set k Y ∧ S1.bufs.length = S.bufs.length ∧
    (∀ t, bufAt S1 t = []) ∧ S1.lock = 0 ∧ (stepS p s k X).1.thr = s.thr.set k (nextX p k X v) ∧ (stepS p s k X).1.mem.length = s.mem.length ∧ (stepS p s k X).1.bufs = [] ∧ (stepS p s k X).1.lock = 0 := by
   unfold stepS
   rw [if_neg k0]
   by_cases k2 : (nextW p k X).kind = 2
   ·have hYd : Y = loadedW (wvP p pts) k y v := by rw [← hY]; unfold nextX; rw [hnx, if_pos k2]
    have hXd : nextX p k X v = loadedW p k X v := by unfold nextX; rw [if_pos k2]
    rw [if_pos k2, if_neg (by omega)]
    have hstep : tsoW (wvP p pts) S k false = ({ S with thr := S.thr.set k Y }, true) := by
     rw [tsoW_s g1, stepB_2 (by rw [hnx]; exact k2), hse, hnx, ← hv, ← hYd]
    refine ⟨_, ⟨by rw [hstep], trivial⟩, rfl, ?_⟩
    show ((tsoW (wvP p pts) S k false).1).mem = _ ∧ _
    rw [show sA (wvP p pts) S [((k : Int), false)] = (tsoW (wvP p pts) S k false).1 from rfl, hstep]
    exact ⟨h.mem, rfl, rfl, h.buf, h.Lk, by rw [hXd, hv], rfl, h.sb, h.lk⟩
   rw [if_neg k2]
   by_cases k3 : (nextW p k X).kind = 3
   ·have hYd : Y = localW (wvP p pts) k y := by rw [← hY]; unfold nextX; rw [hnx, if_neg k2, if_neg (by omega)]
    have hXd : nextX p k X v = localW p k X := by unfold nextX; rw [if_neg k2, if_neg (by omega)]
    rw [if_pos k3, if_pos k3]
    have hstep : tsoW (wvP p pts) S k false = ({ S with thr := S.thr.set k Y, bufs := S.bufs.set k [⟨(nextW p k X).addr, (nextW p k X).val⟩] }, true) := by
     rw [tsoW_s g1, stepB_3 (by rw [hnx]; exact k3), hbf, hnx, ← hYd]; rfl
    have hfl : tsoW (wvP p pts) { S with thr := S.thr.set k Y, bufs := S.bufs.set k [⟨(nextW p k X).addr, (nextW p k X).val⟩] } k true = (⟨wrM S (nextW p k X).addr (nextW p k X).val, S.thr.set k Y, (S.bufs.set k [⟨(nextW p k X).addr, (nextW p k X).val⟩]).set k [], S.lock⟩, true) := by
     rw [tsoW_f (by show k < (S.thr.set k Y).length; rw [List.length_set, h.Tl]; exact hkl)]
     rw [flushW_cons (e := ⟨(nextW p k X).addr, (nextW p k X).val⟩) (r := []) (by
      show bufAt ⟨S.mem, _, S.bufs.set k _, S.lock⟩ k = _
      rw [bufAt_get hkb, if_pos rfl])]
     rfl
    refine ⟨_, ⟨by rw [hstep], ?_, trivial⟩, rfl, ?_⟩
    ·show (tsoW (wvP p pts) (tsoW (wvP p pts) S k false).1 k true).2 = true
     rw [hstep, hfl]
    ·rw [show sA (wvP p pts) S [((k : Int), false), ((k : Int), true)] = (tsoW (wvP p pts) (tsoW (wvP p pts) S k false).1 k true).1 from rfl, hstep, hfl]
     refine ⟨by show wrM S _ _ = wrM s _ _; unfold wrM; rw [h.mem], rfl, by show ((S.bufs.set k _).set k []).length = _; rw [List.length_set, List.length_set], fun t' => ?_, h.Lk, by rw [hXd], by show (wrM s _ _).length = _; rw [wrM_len], h.sb, h.lk⟩
     show bufAt ⟨_, _, (S.bufs.set k _).set k [], S.lock⟩ t' = []
     rw [List.set_set, bufAt_get hkb]
     split
     ·rfl
     ·exact h.buf t'
   rw [if_neg k3, if_neg k3]
   by_cases k4 : (nextW p k X).kind = 4
   ·have hYd : Y = (swapW (wvP p pts) k y v).1 := by rw [← hY]; unfold nextX; rw [hnx, if_neg k2, if_pos k4]
    have hXd : nextX p k X v = (swapW p k X v).1 := by unfold nextX; rw [if_neg k2, if_pos k4]
    rw [if_pos k4]
    have hstep : tsoW (wvP p pts) S k false = ({ S with thr := S.thr.set k Y, mem := if (swapW p k X v).2.2 = true then wrM S (nextW p k X).addr (swapW p k X v).2.1 else S.mem }, true) := by
     rw [tsoW_s g1, stepB_4 (by rw [hnx]; exact k4) hbf, hrd, hnx, ← hv, e2, ← hYd]
    refine ⟨_, ⟨by rw [hstep], trivial⟩, rfl, ?_⟩
    rw [show sA (wvP p pts) S [((k : Int), false)] = (tsoW (wvP p pts) S k false).1 from rfl, hstep, ← hv]
    refine ⟨?_, rfl, rfl, h.buf, h.Lk, by rw [hXd], ?_, h.sb, h.lk⟩
    ·show (if _ then wrM S _ _ else S.mem) = if _ then wrM s _ _ else s.mem
     unfold wrM; rw [h.mem]
    ·show (if _ then wrM s _ _ else s.mem).length = _
     split
     ·exact wrM_len ..
     ·rfl
   ·have hYd : Y = localW (wvP p pts) k y := by rw [← hY]; unfold nextX; rw [hnx, if_neg k2, if_neg k4]
    have hXd : nextX p k X v = localW p k X := by unfold nextX; rw [if_neg k2, if_neg k4]
    rw [if_neg k4]
    have hstep : tsoW (wvP p pts) S k false = ({ S with thr := S.thr.set k Y }, true) := by
     rw [tsoW_s g1, stepB_5 (by rw [hnx]; exact k0) (by rw [hnx]; exact k2) (by rw [hnx]; exact k3) (by rw [hnx]; exact k4) (fun _ => hbf), ← hYd]
    refine ⟨_, ⟨by rw [hstep], trivial⟩, rfl, ?_⟩
    rw [show sA (wvP p pts) S [((k : Int), false)] = (tsoW (wvP p pts) S k false).1 from rfl, hstep]
    exact ⟨h.mem, rfl, rfl, h.buf, h.Lk, by rw [hXd], rfl, h.sb, h.lk⟩
  obtain ⟨S1, m1, m2, m3, m4, m5, m6, m7, m8, m9, m10, m11⟩ := main
  have hup : upX p pts s (k : Int) = (((k : Int), false) :: if (nextW p k X).kind = 3 then [((k : Int), true)] else []) ++ if b = true then [((k : Int), false)] else [] := by
   unfold upX
   rw [Int.toNat_natCast, g2, hsc, m8, List.getElem?_set_self hks]
   simp only
   congr 1
   by_cases hb : b = true
   ·rw [if_pos (hfen.2 hb), if_pos hb]
   ·rw [if_neg (fun hc => hb (hfen.1 hc)), if_neg hb]
  rw [hup, hsc]
  cases b with
  | false =>
   rw [if_neg Bool.false_ne_true, List.append_nil, m2]
   exact ⟨m1, lf_done h ht m3 m9 m4 m5 m6 m10 m11 m7 (by rw [m8, e1]) e3⟩
  | true =>
   rw [if_pos (rfl : true = true)]
   have hYst : Y.st = 0 := by have := (hfen.2 rfl).1; rw [← e1] at this; exact this
   have hY1 : S1.thr[k]? = some Y := by rw [m4, List.getElem?_set_self (by rw [h.Tl]; exact hkl)]
   obtain ⟨y', q1, q2, q3⟩ := fence_on (S := S1) hwk ht hY1 (m6 k) e3 hYst
   refine ⟨dnA_app m1 ?_, ?_⟩
   ·rw [m2]
    exact ⟨by rw [q1], trivial⟩
   ·rw [sA_app, m2]
    show lfI p pts _ (tsoW (wvP p pts) S1 k false).1
    rw [q1]
    exact lf_done (S' := { S1 with thr := S1.thr.set k y' }) h ht m3 m9 (by show S1.thr.set k y' = _; rw [m4, List.set_set]) m5 m6 m10 m11 m7 (by rw [m8, q2, e1]) q3
 ·have : (scW p s t) = (s, false) := by
   unfold scW
   split
   ·rw [List.getElem?_eq_none (by omega)]
   ·rfl
  rw [this, if_neg (by simp)]
  exact ⟨trivial, h⟩
theorem lf_all (hc : checkC p = 0) (ho : okP p) (hw : ∀ (t : Nat) (ins : List Ins), p.threads[t]? = some ins → wvQ (pts.getD t []) ins) : ∀ (l : List Int) {s S : State}, lfI p pts s S → dnA (wvP p pts) S (upL p pts s l) ∧ lfI p pts (scL p s l) (sA (wvP p pts) S (upL p pts s l))
 | [], _, _, h => ⟨trivial, h⟩
 | t :: l, s, S, h => by
  obtain ⟨h1, h2⟩ := lf_step hc ho hw h t
  obtain ⟨h3, h4⟩ := lf_all hc ho hw l h2
  exact ⟨dnA_app h1 h3, by rw [upL, sA_app]; exact h4⟩
structure lfB (p : Prg) (pts : List (List Int)) (k : Nat) (S : State) : Prop where
 mem : S.mem = startF p.syms
 Tl : S.thr.length = p.threads.length
 bl : S.bufs.length = p.threads.length
 buf : ∀ t, bufAt S t = []
 Lk : S.lock = 0
 thr : ∀ (t : Nat) (ins : List Ins), p.threads[t]? = some ins → if t < k then ∃ y n, S.thr[t]? = some y ∧ zThr = wB (pts.getD t []) y ∧ wAt (pts.getD t []) ins y n false else S.thr[t]? = some zThr
theorem zThr_back {t : Nat} {ins : List Ins} (hw : wvQ (pts.getD t []) ins) : wB (pts.getD t []) zThr = zThr := by
 have hb := back_ent hw.rs 0
 show ({ zThr with pc := backW (pts.getD t []) ((entN (pts.getD t []) 0 : Nat) : Int) } : Thr) = zThr
 rw [hb]; rfl
theorem lf_begin (hw : ∀ (t : Nat) (ins : List Ins), p.threads[t]? = some ins → wvQ (pts.getD t []) ins) : ∀ (n k : Nat) {S : State}, k + n = p.threads.length → lfB p pts k S → dnA (wvP p pts) S (upB pts k n) ∧ lfB p pts p.threads.length (sA (wvP p pts) S (upB pts k n))
 | 0, k, S, e, h => by
  rw [show k = p.threads.length by omega] at h
  exact ⟨trivial, h⟩
 | n + 1, k, S, e, h => by
  have hkl : k < p.threads.length := by omega
  have ht : p.threads[k]? = some p.threads[k] := List.getElem?_eq_getElem hkl
  generalize p.threads[k] = ins at ht
  have hwk := hw k ins ht
  have hz := h.thr k ins ht
  rw [if_neg (by omega)] at hz
  have hzb := zThr_back (pts := pts) hwk
  have h0 : wAt (pts.getD k []) ins { zThr with ph := 1, pc := (entN (pts.getD k []) 0 + if ((0 : Nat) : Int) ∈ pts.getD k [] then 1 else 0 : Nat) } 0 false := ⟨Nat.zero_le _, fun e => (by cases e), fun _ => rfl⟩
  obtain ⟨b, hb⟩ := h0.to (z := zThr) (m := 0) (Nat.zero_le _) rfl rfl
  have hpt : ptB pts k 0 = b := by
   unfold ptB
   cases b with
   | true => exact dT (hb.fen rfl).1
   | false =>
    refine dF fun hm => ?_
    have := hb.ins rfl
    rw [if_pos (show ((0 : Nat) : Int) ∈ pts.getD k [] from hm)] at this
    exact absurd this (by show ¬ ((0 : Int) = ((0 + 1 : Nat) : Int)); decide)
  have key : ∀ (S' : State) (y : Thr), S'.mem = S.mem → S'.thr = S.thr.set k y → S'.bufs = S.bufs → S'.lock = S.lock → zThr = wB (pts.getD k []) y → (∃ n, wAt (pts.getD k []) ins y n false) → lfB p pts (k + 1) S' := fun S' y q1 q2 q3 q4 q5 q6 => by
   refine ⟨q1.trans h.mem, by rw [q2, List.length_set]; exact h.Tl, by rw [q3]; exact h.bl, fun t => by unfold bufAt; rw [q3]; exact h.buf t, q4.trans h.Lk, fun t ins' hti => ?_⟩
   by_cases htk : t = k
   ·subst htk
    rw [ht] at hti; cases hti
    rw [if_pos (by omega)]
    obtain ⟨n, q6⟩ := q6
    exact ⟨y, n, by rw [q2, List.getElem?_set_self (by rw [h.Tl]; exact hkl)], q5, q6⟩
   ·have := h.thr t ins' hti
    rw [q2, List.getElem?_set_ne (fun e => htk e.symm)]
    by_cases hlt : t < k
    ·rw [if_pos (by omega)]; rw [if_pos hlt] at this; exact this
    ·rw [if_neg (by omega)]; rw [if_neg hlt] at this; exact this
  rw [upB, hpt]
  cases b with
  | false =>
   rw [if_neg Bool.false_ne_true, List.nil_append]
   refine lf_begin hw n (k + 1) (by omega) (key S zThr rfl ?_ rfl rfl hzb.symm ⟨0, hb⟩)
   apply List.ext_getElem?
   intro j
   by_cases hj : j = k
   ·rw [hj, hz, List.getElem?_set_self (by rw [h.Tl]; exact hkl)]
   ·rw [List.getElem?_set_ne (fun e => hj e.symm)]
  | true =>
   rw [if_pos (rfl : true = true)]
   obtain ⟨y', q1, q2, q3⟩ := fence_on hwk ht hz (h.buf k) hb rfl
   obtain ⟨r1, r2⟩ := lf_begin hw n (k + 1) (S := { S with thr := S.thr.set k y' }) (by omega) (key _ y' rfl rfl rfl rfl (by rw [q2, hzb]) ⟨0, q3⟩)
   have e1 : sA (wvP p pts) S [((k : Int), false)] = { S with thr := S.thr.set k y' } := by
    show (tsoW (wvP p pts) S k false).1 = _
    rw [q1]
   refine ⟨dnA_app ⟨by rw [q1], trivial⟩ (by rw [e1]; exact r1), by rw [sA_app, e1]; exact r2⟩
theorem lift_ok (hc : checkC p = 0) (ho : okP p) (hw : ∀ (t : Nat) (ins : List Ins), p.threads[t]? = some ins → wvQ (pts.getD t []) ins) (l : List Int) :
  dnA (wvP p pts) (startT (wvP p pts)) (liftL p pts l) ∧ lfI p pts (scL p (start0 p) l) (sA (wvP p pts) (startT (wvP p pts)) (liftL p pts l)) := by
 have hb0 : lfB p pts 0 (startT (wvP p pts)) := by
  have hl : (wvP p pts).threads.length = p.threads.length := wvT_len ..
  refine ⟨rfl, by show (List.replicate _ _).length = _; rw [List.length_replicate]; exact hl, by show (List.replicate _ _).length = _; rw [List.length_replicate]; exact hl, fun t => ?_, rfl, fun t ins ht => ?_⟩
  ·show (List.replicate _ []).getD t [] = []
   rw [List.getD_eq_getElem?_getD, List.getElem?_replicate]
   split <;> rfl
  ·rw [if_neg (Nat.not_lt_zero _)]
   show (List.replicate _ zThr)[t]? = some zThr
   rw [List.getElem?_replicate, if_pos (by rw [hl]; exact get_lt ht)]
 obtain ⟨h1, h2⟩ := lf_begin hw p.threads.length 0 (by omega) hb0
 have h3 : lfI p pts (start0 p) (sA (wvP p pts) (startT (wvP p pts)) (upB pts 0 p.threads.length)) := by
  refine ⟨h2.mem, rfl, List.length_replicate .., h2.Tl, h2.bl, h2.buf, rfl, rfl, h2.Lk, fun t ins ht => ?_⟩
  have := h2.thr t ins ht
  rw [if_pos (get_lt ht)] at this
  obtain ⟨y, n, q1, q2, q3⟩ := this
  refine ⟨y, n, q1, ?_, q3⟩
  rw [← q2]
  show (List.replicate _ zThr)[t]? = _
  rw [List.getElem?_replicate, if_pos (get_lt ht)]
 obtain ⟨h4, h5⟩ := lf_all hc ho hw l h3
 unfold liftL
 exact ⟨dnA_app h1 h4, by rw [sA_app]; exact h5⟩
end
end Go.Proofs.YtnphhelbianjpaaGreatDoor
