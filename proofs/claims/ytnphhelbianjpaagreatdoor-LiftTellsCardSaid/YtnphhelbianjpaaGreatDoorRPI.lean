/-
  Walks of functions of the program, and what the laws need of them.
-/
import Derived.Test.YtnphhelbianjpaaGreatDoorRPE
import Derived.Test.YtnphhelbianjpaaGreatDoorVI
import Derived.Test.YtnphhelbianjpaaGreatDoorRPH
import Derived.Test.YtnphhelbianjpaaGreatDoorRPG
set_option linter.all false
set_option linter.unusedSimpArgs false
set_option linter.unusedVariables false
set_option linter.unnecessarySimpa false
namespace Go.Proofs.YtnphhelbianjpaaGreatDoor
set_option maxRecDepth 20000
open Go Go.Proofs.YtnphhelbianjpaaGreatDoor.V Go.Proofs
def zE : Entry := ⟨0, 0⟩
structure Rg where
 l : List Entry
 p : Nat
 n : Nat
def Rg.new : Rg := ⟨[], 0, 0⟩
def Rg.plc (r : Rg) (k : Nat) : Nat := (r.p + k) % r.l.length
def Rg.get (r : Rg) (k : Nat) : Entry := r.l.getD (r.plc k) zE
def Rg.list (r : Rg) : List Entry := (List.range r.n).map r.get
def Rg.push (r : Rg) (e : Entry) : Rg := if r.n = r.l.length then ⟨(r.list ++ List.replicate (r.n + 2) zE).set r.n e, 0, r.n + 1⟩ else ⟨r.l.set (r.plc r.n) e, r.p, r.n + 1⟩
def Rg.pop (r : Rg) : Rg := ⟨r.l, r.plc 1, r.n - 1⟩
structure Rg.ok (r : Rg) : Prop where
 n : r.n ≤ r.l.length
 p : r.l = [] ∨ r.p < r.l.length
def lastE (l : List Entry) (a : Int) : Option Int := (l.reverse.find? fun e => decide (e.addr = a)).map (·.val)
end Go.Proofs.YtnphhelbianjpaaGreatDoor
namespace Go.Proofs.YtnphhelbianjpaaGreatDoor
set_option maxRecDepth 20000
open Go Go.Proofs.YtnphhelbianjpaaGreatDoor.V Go.Proofs
section
attribute [local irreducible] TwS TwR thenT inBlockT retT
variable {G : World → Prop}
end
end Go.Proofs.YtnphhelbianjpaaGreatDoor
namespace Go.Proofs.YtnphhelbianjpaaGreatDoor
set_option maxRecDepth 20000
open Go Go.Proofs.YtnphhelbianjpaaGreatDoor.V Go.Proofs
end Go.Proofs.YtnphhelbianjpaaGreatDoor
namespace Go.Proofs.YtnphhelbianjpaaGreatDoor
set_option maxRecDepth 20000
open Go Go.Proofs.YtnphhelbianjpaaGreatDoor.V Go.Proofs

def bufAt (s : State) (t : Nat) : List Entry := s.bufs.getD t []
def flushW (s : State) (t : Nat) : State × Bool := match bufAt s t with
 | [] => (s, false)
 | e :: r => ({ s with mem := wrM s e.addr e.val, bufs := s.bufs.set t r }, true)
def seenW (s : State) (t : Nat) (a : Int) : Int := (lastE (bufAt s t) a).getD (rdM s a)
def stepB (p : Prg) (s : State) (t : Nat) (x : Thr) : State × Bool :=
 if ((nextW p t x).kind = 4 ∨ (nextW p t x).kind = 5) ∧ bufAt s t ≠ [] then (s, false)
 else if (nextW p t x).kind = 2 then ({ s with thr := s.thr.set t (loadedW p t x (seenW s t (nextW p t x).addr)) }, true)
 else if (nextW p t x).kind = 3 then ({ s with thr := s.thr.set t (localW p t x), bufs := s.bufs.set t (bufAt s t ++ [⟨(nextW p t x).addr, (nextW p t x).val⟩]) }, true)
 else stepS p s t x
def tsoW (p : Prg) (s : State) (t : Int) (f : Bool) : State × Bool := if 0 ≤ t then (match s.thr[t.toNat]? with
  | some x => if f = true then flushW s t.toNat else stepB p s t.toNat x
  | none => (s, false)) else (s, false)
def doR (p : Prg) (s : State) (R : List Rg) (t : Int) (f : Bool) : List Rg := if 0 ≤ t then (match s.thr[t.toNat]?, R[t.toNat]? with
  | some x, some r => if f = true then (if r.n = 0 then R else R.set t.toNat r.pop) else if (nextW p t.toNat x).kind = 3 then R.set t.toNat (r.push ⟨(nextW p t.toNat x).addr, (nextW p t.toNat x).val⟩) else R
  | _, _ => R) else R
section
variable {p : Prg} {s : State} {t : Nat} {x : Thr}
end
structure rgQ (s : State) (R : List Rg) (m : Nat) : Prop where
 bufs : s.bufs = R.map Rg.list
 len : R.length = s.thr.length
 ok : ∀ r ∈ R, r.ok
 few : ∀ r ∈ R, r.n ≤ m ∧ r.l.length ≤ 2 * m + 2
 addr : ∀ r ∈ R, ∀ e ∈ r.list, 0 ≤ e.addr ∧ e.addr < s.mem.length ∧ inR e.val
end Go.Proofs.YtnphhelbianjpaaGreatDoor
namespace Go.Proofs.YtnphhelbianjpaaGreatDoor
set_option maxRecDepth 20000
open Go Go.Proofs.YtnphhelbianjpaaGreatDoor.V Go.Proofs
abbrev MS := State × List Rg
structure mQ (p : Prg) (m : Nat) (q : MS) : Prop where
 st : stQ p q.1
 rg : rgQ q.1 q.2 m
 thr : q.1.thr.length = p.threads.length
 lock : q.1.lock = 0
end Go.Proofs.YtnphhelbianjpaaGreatDoor
namespace Go.Proofs.YtnphhelbianjpaaGreatDoor
set_option maxRecDepth 20000
open Go Go.Proofs.YtnphhelbianjpaaGreatDoor.V Go.Proofs
section
attribute [local irreducible] TwS TwR thenT inBlockT retT nextW localW loadedW swapW Rg.push Rg.pop
variable {G : World → Prop}
end
end Go.Proofs.YtnphhelbianjpaaGreatDoor
namespace Go.Proofs.YtnphhelbianjpaaGreatDoor
set_option maxRecDepth 20000
open Go Go.Proofs.YtnphhelbianjpaaGreatDoor.V Go.Proofs
section
attribute [local irreducible] TwS TwR thenT inBlockT retT nextW localW loadedW swapW Rg.push Rg.pop tsoW doR
variable {G : World → Prop}
end
end Go.Proofs.YtnphhelbianjpaaGreatDoor
namespace Go.Proofs.YtnphhelbianjpaaGreatDoor
set_option maxRecDepth 20000
open Go Go.Proofs.YtnphhelbianjpaaGreatDoor.V Go.Proofs
def cPick (x : Int × Bool) : List TV := [tI x.1, tB x.2]
section
attribute [local irreducible] TwS TwR thenT inBlockT retT nextW localW loadedW swapW Rg.push Rg.pop tsoW doR
variable {G : World → Prop}
end
end Go.Proofs.YtnphhelbianjpaaGreatDoor
namespace Go.Proofs.YtnphhelbianjpaaGreatDoor
set_option maxRecDepth 20000
open Go Go.Proofs.YtnphhelbianjpaaGreatDoor.V Go.Proofs
section
attribute [local irreducible] TwS TwR thenT inBlockT retT nextW localW loadedW swapW Rg.push Rg.pop
variable {G : World → Prop}
end
end Go.Proofs.YtnphhelbianjpaaGreatDoor
namespace Go.Proofs.YtnphhelbianjpaaGreatDoor
set_option maxRecDepth 20000
open Go Go.Proofs.YtnphhelbianjpaaGreatDoor.V Go.Proofs
section
attribute [local irreducible] TwS TwR thenT inBlockT retT nextW localW loadedW swapW Rg.push Rg.pop tsoW doR
variable {G : World → Prop}
end
end Go.Proofs.YtnphhelbianjpaaGreatDoor
