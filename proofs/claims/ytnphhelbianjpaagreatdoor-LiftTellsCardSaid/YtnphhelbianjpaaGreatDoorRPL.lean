/-
  Walks of functions of the program, and what the laws need of them.
-/
import Derived.Test.YtnphhelbianjpaaGreatDoorRPI
import Derived.Test.YtnphhelbianjpaaGreatDoorRPE
set_option linter.all false
set_option linter.unusedSimpArgs false
set_option linter.unusedVariables false
set_option linter.unnecessarySimpa false
namespace Go.Proofs.YtnphhelbianjpaaGreatDoor
set_option maxRecDepth 20000
open Go Go.Proofs.YtnphhelbianjpaaGreatDoor.V Go.Proofs
abbrev Pk := Int × Bool
section
variable {p : Prg} {s a : State} {k j : Nat} {y : Thr}
end
end Go.Proofs.YtnphhelbianjpaaGreatDoor
namespace Go.Proofs.YtnphhelbianjpaaGreatDoor
set_option maxRecDepth 20000
open Go Go.Proofs.YtnphhelbianjpaaGreatDoor.V Go.Proofs
def fenI (ls : List ByteArray) : Ins := ⟨12, false, 0, noOpd, noOpd, bs [], ls⟩
def bareI (i : Ins) : Ins := { i with labels := [] }
def wvL (l : List Int) : Nat → List Ins → List Ins
 | _, [] => []
 | k, i :: r => if (k : Int) ∈ l then fenI i.labels :: bareI i :: wvL l (k + 1) r else i :: wvL l (k + 1) r
def wvT : List (List Int) → List (List Ins) → List (List Ins)
 | _, [] => []
 | [], t :: r => t :: wvT [] r
 | l :: ls, t :: r => wvL l 0 t :: wvT ls r
def wvP (p : Prg) (pts : List (List Int)) : Prg := ⟨p.syms, wvT pts p.threads⟩
def cutN (l : List Int) : Nat → Nat → Nat
 | _, 0 => 0
 | k, n + 1 => (if (k : Int) ∈ l then 1 else 0) + cutN l (k + 1) n
def entN (l : List Int) (n : Nat) : Nat := n + cutN l 0 n
theorem wvL_nil : ∀ (t : List Ins) (k : Nat), wvL [] k t = t
 | [], _ => rfl
 | i :: r, k => by rw [wvL, if_neg (List.not_mem_nil), wvL_nil r]
theorem wvL_len (l : List Int) : ∀ (r : List Ins) (k : Nat), (wvL l k r).length = r.length + cutN l k r.length
 | [], _ => rfl
 | i :: r, k => by
  rw [wvL, List.length_cons, cutN]
  split
  ·rw [List.length_cons, List.length_cons, wvL_len l r]; omega
  ·rw [List.length_cons, wvL_len l r]; omega
theorem wvT_nil : ∀ ts : List (List Ins), wvT [] ts = ts
 | [] => rfl
 | t :: r => by rw [wvT, wvT_nil r]
theorem wvT_get : ∀ (pts : List (List Int)) (ts : List (List Ins)) (t : Nat), (wvT pts ts)[t]? = (ts[t]?).map (wvL (pts.getD t []) 0)
 | _, [], t => by rw [wvT]; rfl
 | [], x :: r, t => by
  rw [wvT_nil]
  have : (wvL ([].getD t []) 0 : List Ins → List Ins) = id := by
   funext z
   rw [List.getD_eq_getElem?_getD]
   exact wvL_nil z 0
  rw [this]
  simp
 | l :: ls, x :: r, 0 => rfl
 | l :: ls, x :: r, t + 1 => by
  rw [wvT]
  show (wvT ls r)[t]? = _
  rw [wvT_get ls r t]
  rfl
theorem wvT_len : ∀ (pts : List (List Int)) (ts : List (List Ins)), (wvT pts ts).length = ts.length
 | _, [] => by rw [wvT]
 | [], x :: r => by rw [wvT_nil]
 | l :: ls, x :: r => by rw [wvT, List.length_cons, List.length_cons, wvT_len ls r]
def rises (l : List Int) : Prop := List.Pairwise (fun a b => a < b) l ∧ ∀ a ∈ l, 0 ≤ a
end Go.Proofs.YtnphhelbianjpaaGreatDoor
namespace Go.Proofs.YtnphhelbianjpaaGreatDoor
set_option maxRecDepth 20000
open Go Go.Proofs.YtnphhelbianjpaaGreatDoor.V Go.Proofs
theorem sh_pick : shapeOf prog 10000 51 = some [.i .i64, .b] := by kernel_rfl
theorem ag_pick : (prog.underlying 51).map aggD = some true := by kernel_rfl
theorem eg_pick : prog.eqGuardType prog.depth 51 = false := by kernel_rfl
section
attribute [local irreducible] TwS TwR thenT inBlockT retT
variable {G : World → Prop}
theorem samePicks_spec (l : List (Int × Bool)) (hl : l.length ≤ 1000000) : Pure prog G 11 [.lst 2 (l.map cPick), .lst 2 (l.map cPick)] (tB true) := by
 have hml : (l.map cPick).length = l.length := lM ..
 refine Pure.at mixedOk F11 rfl fun C hP hG hp => goF ?_; simp only [F11, targEnv, Nat.zero_add, Nat.reduceAdd]
 repeat' (first | refine goR rfl ?_ | refine goS rfl ?_ | refine tret1 rfl ?_ | refine tretN rfl ?_ | refine gY rfl rfl ?_ | refine gN rfl rfl ?_ | refine qT rfl rfl ?_ | refine qF rfl rfl ?_ | ((first | refine gS rfl (fun h => ?_) (fun h => ?_) | refine ts_cond rfl (fun h => ?_) (fun h => ?_)) <;> (try simp only [bs0, beq_iff_eq] at h) <;> try (exfalso; exact h trivial; done)) | fail)
 refine loopS (fun m env σ => ∃ a b, l = a ++ b ∧ m = b.length ∧ env = [(0, .lst 2 (l.map cPick)), (1, .lst 2 (l.map cPick)), (5, tI a.length)] ∧ σ = ⟨[], 0⟩) l.length (w_sub [0, 1, 5] rfl) ⟨[], l, rfl, rfl, rfl, rfl⟩ ?_
 rintro m env σ ⟨a, b, e, rfl, rfl, rfl⟩
 have hla : l.length = a.length + b.length := by rw [e, lA]
 cases b with
 | nil =>
  rw [List.length_nil] at hla
  repeat' (first | refine goR rfl ?_ | refine goS rfl ?_ | refine tret1 rfl ?_ | refine tretN rfl ?_ | refine gY rfl rfl ?_ | refine gN rfl rfl ?_ | refine qT rfl rfl ?_ | refine qF rfl rfl ?_ | refine qF rfl (dF (by omega)) ?_ | fail)
  exact .fr rfl
 | cons x b =>
  have hx : l[a.length]? = some x := by rw [e]; exact ix
  simp only [List.length_cons] at hla
  have hw1 : IntKind.i64.wrap ((a.length : Int) + 1) = ((a ++ [x]).length : Int) := by rw [w64 (by omega), lA]; rfl
  repeat' (first | refine goR rfl ?_ | refine goS rfl ?_ | refine tret1 rfl ?_ | refine tretN rfl ?_ | refine gY rfl rfl ?_ | refine gN rfl rfl ?_ | refine qT rfl rfl ?_ | refine qF rfl rfl ?_ | refine qT rfl (dT (by omega)) ?_ | refine lT (tl_ixm rfl rfl rfl hx) ?_ | refine lT (tl_neT (by rw [hP]; exact sh_pick) (by rw [hP]; exact ag_pick) (by rw [hP]; exact eg_pick) rfl rfl rfl rfl rfl) ?_ | fail)
  refine again (m' := b.length) (Nat.lt_succ_self _) (w_sub [0, 1, 5] rfl) ⟨a ++ [x], b, by rw [e]; simp, rfl, by rw [hw1], rfl⟩
end
end Go.Proofs.YtnphhelbianjpaaGreatDoor
namespace Go.Proofs.YtnphhelbianjpaaGreatDoor
set_option maxRecDepth 20000
open Go Go.Proofs.YtnphhelbianjpaaGreatDoor.V Go.Proofs
def zPh (x : Thr) : Thr := { x with ph := 0, la := 0 }
section
variable {p : Prg} {t : Int} {x : Thr}
end
end Go.Proofs.YtnphhelbianjpaaGreatDoor
namespace Go.Proofs.YtnphhelbianjpaaGreatDoor
set_option maxRecDepth 20000
open Go Go.Proofs.YtnphhelbianjpaaGreatDoor.V Go.Proofs
def heldQ (p : Prg) (s : State) : Prop := ∀ (t : Nat) (x : Thr), s.thr[t]? = some x → x.ph ≠ 0 → (nextW p t (zPh x)).kind = 4 → s.lock = (t : Int) + 1
structure oQ (p : Prg) (m : Nat) (q : MS) : Prop where
 st : stQ p q.1
 rg : rgQ q.1 q.2 m
 thr : q.1.thr.length = p.threads.length
 lock : 0 ≤ q.1.lock ∧ q.1.lock ≤ p.threads.length
 held : heldQ p q.1
theorem heldQ.set {p : Prg} {s s' : State} (h : heldQ p s) {t : Nat} {y : Thr} (ht : s'.thr = s.thr.set t y) (hl : ∀ k, k ≠ t → s.lock = (k : Int) + 1 → s'.lock = (k : Int) + 1) (hy : y.ph ≠ 0 → (nextW p t (zPh y)).kind = 4 → s'.lock = (t : Int) + 1) : heldQ p s' := by
 intro k x hx h0 h4
 rw [ht] at hx
 by_cases hk : k = t
 ·subst hk
  by_cases hlt : k < s.thr.length
  ·rw [List.getElem?_set_self hlt] at hx
   cases hx
   exact hy h0 h4
  ·rw [List.getElem?_eq_none (by rw [List.length_set]; omega)] at hx
   cases hx
 ·rw [List.getElem?_set_ne (fun h => hk h.symm)] at hx
  exact hl k hk (h k x hx h0 h4)
end Go.Proofs.YtnphhelbianjpaaGreatDoor
namespace Go.Proofs.YtnphhelbianjpaaGreatDoor
set_option maxRecDepth 20000
open Go Go.Proofs.YtnphhelbianjpaaGreatDoor.V Go.Proofs
structure wAt (l : List Int) (ins : List Ins) (y : Thr) (n : Nat) (b : Bool) : Prop where
 le : n ≤ ins.length
 fen : b = true → (n : Int) ∈ l ∧ y.ph = 0 ∧ y.pc = (entN l n : Nat)
 ins : b = false → y.pc = ((entN l n + if (n : Int) ∈ l then 1 else 0 : Nat) : Int)
structure wvQ (l : List Int) (ins : List Ins) : Prop where
 rs : rises l
 lt : ∀ a ∈ l, a < ins.length
 few : ins.length ≤ 1000000000
section
variable {p : Prg} {pts : List (List Int)} {t : Nat} {ins : List Ins} {l : List Int} {y z : Thr} {n : Nat} {b : Bool}
end
end Go.Proofs.YtnphhelbianjpaaGreatDoor
