/-
  Walks of functions of the program, and what the laws need of them.
-/
import Derived.Test.YtnphhelbianjpaaDoorRPI
import Derived.Test.YtnphhelbianjpaaDoorRPE
set_option linter.all false
set_option linter.unusedSimpArgs false
set_option linter.unusedVariables false
set_option linter.unnecessarySimpa false
namespace Go.Proofs.YtnphhelbianjpaaDoor
set_option maxRecDepth 20000
open Go Go.Proofs.YtnphhelbianjpaaDoor.V Go.Proofs
abbrev Pk := Int × Bool
def aE (s : State) : Prop := ∀ l ∈ s.bufs, ∀ e ∈ l, 0 ≤ e.addr ∧ e.addr < s.mem.length
section
variable {p : Prg} {s a : State} {k j : Nat} {y : Thr}
theorem bufAt_mem {e : Entry} (h : e ∈ bufAt s k) : ∃ l ∈ s.bufs, e ∈ l := by
 unfold bufAt at h
 rw [List.getD_eq_getElem?_getD] at h
 cases hg : s.bufs[k]? with
 | none => rw [hg] at h; cases h
 | some l => rw [hg] at h; exact ⟨l, List.mem_of_getElem? hg, h⟩
theorem aE.at (h : aE s) {e : Entry} (he : e ∈ bufAt s k) : 0 ≤ e.addr ∧ e.addr < s.mem.length := by
 obtain ⟨l, hl, hm⟩ := bufAt_mem he
 exact h l hl e hm
theorem aE.stepB (hc : checkC p = 0) (hl : s.mem.length = (startF p.syms).length) (h : aE s) {t : Nat} {x : Thr} : aE (stepB p s t x).1 := by
 have key : ∀ m : List Int, m.length = s.mem.length → ∀ l ∈ s.bufs, ∀ e ∈ l, 0 ≤ e.addr ∧ e.addr < (m.length : Int) := fun m hm l hl e he => by rw [hm]; exact h l hl e he
 by_cases h0 : (nextW p t x).kind = 0
 ·rw [stepB_0 h0]; exact h
 by_cases h2 : (nextW p t x).kind = 2
 ·rw [stepB_2 h2]; exact h
 by_cases h3 : (nextW p t x).kind = 3
 ·rw [stepB_3 h3]
  obtain ⟨g1, g2⟩ := next_addr hc (t := t) (x := x) (.inr (.inl h3))
  rw [← hl] at g2
  intro l hl e he
  rcases List.mem_or_eq_of_mem_set hl with h1 | rfl
  ·exact h l h1 e he
  ·rcases List.mem_append.1 he with he | he
   ·exact h.at he
   ·rw [List.mem_singleton.1 he]; exact ⟨g1, g2⟩
 by_cases h5 : ((nextW p t x).kind = 4 ∨ (nextW p t x).kind = 5) ∧ bufAt s t ≠ []
 ·rw [stepB_w h5.1 h5.2]; exact h
 by_cases h4 : (nextW p t x).kind = 4
 ·rw [stepB_4 h4 (Classical.byContradiction fun hb => h5 ⟨.inl h4, hb⟩)]
  refine key _ ?_
  split
  ·exact wrM_len ..
  ·rfl
 ·rw [stepB_5 h0 h2 h3 h4 (fun h => Classical.byContradiction fun hb => h5 ⟨.inr h, hb⟩)]; exact h
end
end Go.Proofs.YtnphhelbianjpaaDoor
namespace Go.Proofs.YtnphhelbianjpaaDoor
set_option maxRecDepth 20000
open Go Go.Proofs.YtnphhelbianjpaaDoor.V Go.Proofs
def fenI (ls : List ByteArray) : Ins := ⟨12, false, 0, noOpd, noOpd, bs [], ls⟩
def bareI (i : Ins) : Ins := { i with labels := [] }
def wvL (l : List Int) : Nat → List Ins → List Ins
 | _, [] => []
 | k, i :: r => if (k : Int) ∈ l then fenI i.labels :: bareI i :: wvL l (k + 1) r else i :: wvL l (k + 1) r
def wvT : List (List Int) → List (List Ins) → List (List Ins)
 | _, [] => []
 | [], t :: r => t :: wvT [] r
 | l :: ls, t :: r => wvL l 0 t :: wvT ls r
def wvP (p : Prg) (pts : List (List Int)) : Prg := ⟨p.syms, wvT pts p.threads⟩
def cutN (l : List Int) : Nat → Nat → Nat
 | _, 0 => 0
 | k, n + 1 => (if (k : Int) ∈ l then 1 else 0) + cutN l (k + 1) n
theorem wvL_nil : ∀ (t : List Ins) (k : Nat), wvL [] k t = t
 | [], _ => rfl
 | i :: r, k => by rw [wvL, if_neg (List.not_mem_nil), wvL_nil r]
theorem wvL_len (l : List Int) : ∀ (r : List Ins) (k : Nat), (wvL l k r).length = r.length + cutN l k r.length
 | [], _ => rfl
 | i :: r, k => by
  rw [wvL, List.length_cons, cutN]
  split
  ·rw [List.length_cons, List.length_cons, wvL_len l r]; omega
  ·rw [List.length_cons, wvL_len l r]; omega
theorem wvT_nil : ∀ ts : List (List Ins), wvT [] ts = ts
 | [] => rfl
 | t :: r => by rw [wvT, wvT_nil r]
theorem wvT_get : ∀ (pts : List (List Int)) (ts : List (List Ins)) (t : Nat), (wvT pts ts)[t]? = (ts[t]?).map (wvL (pts.getD t []) 0)
 | _, [], t => by rw [wvT]; rfl
 | [], x :: r, t => by
  rw [wvT_nil]
  have : (wvL ([].getD t []) 0 : List Ins → List Ins) = id := by
   funext z
   rw [List.getD_eq_getElem?_getD]
   exact wvL_nil z 0
  rw [this]
  simp
 | l :: ls, x :: r, 0 => rfl
 | l :: ls, x :: r, t + 1 => by
  rw [wvT]
  show (wvT ls r)[t]? = _
  rw [wvT_get ls r t]
  rfl
theorem wvT_len : ∀ (pts : List (List Int)) (ts : List (List Ins)), (wvT pts ts).length = ts.length
 | _, [] => by rw [wvT]
 | [], x :: r => by rw [wvT_nil]
 | l :: ls, x :: r => by rw [wvT, List.length_cons, List.length_cons, wvT_len ls r]
def rises (l : List Int) : Prop := List.Pairwise (fun a b => a < b) l ∧ ∀ a ∈ l, 0 ≤ a
end Go.Proofs.YtnphhelbianjpaaDoor
namespace Go.Proofs.YtnphhelbianjpaaDoor
set_option maxRecDepth 20000
open Go Go.Proofs.YtnphhelbianjpaaDoor.V Go.Proofs
theorem sh_pick : shapeOf prog 10000 60 = some [.i .i64, .b] := by kernel_rfl
theorem ag_pick : (prog.underlying 60).map aggD = some true := by kernel_rfl
theorem eg_pick : prog.eqGuardType prog.depth 60 = false := by kernel_rfl
section
attribute [local irreducible] TwS TwR thenT inBlockT retT
variable {G : World → Prop}
theorem samePicks_spec (l : List (Int × Bool)) (hl : l.length ≤ 1000000) : Pure prog G 12 [.lst 2 (l.map cPick), .lst 2 (l.map cPick)] (tB true) := by
 have hml : (l.map cPick).length = l.length := lM ..
 refine Pure.at mixedOk F12 rfl fun C hP hG hp => goF ?_; simp only [F12, targEnv, Nat.zero_add, Nat.reduceAdd]
 repeat' (first | refine goR rfl ?_ | refine goS rfl ?_ | refine tret1 rfl ?_ | refine tretN rfl ?_ | refine gY rfl rfl ?_ | refine gN rfl rfl ?_ | refine qT rfl rfl ?_ | refine qF rfl rfl ?_ | ((first | refine gS rfl (fun h => ?_) (fun h => ?_) | refine ts_cond rfl (fun h => ?_) (fun h => ?_)) <;> (try simp only [bs0, beq_iff_eq] at h) <;> try (exfalso; exact h trivial; done)) | fail)
 refine loopS (fun m env σ => ∃ a b, l = a ++ b ∧ m = b.length ∧ env = [(0, .lst 2 (l.map cPick)), (1, .lst 2 (l.map cPick)), (5, tI a.length)] ∧ σ = ⟨[], 0⟩) l.length (w_sub [0, 1, 5] rfl) ⟨[], l, rfl, rfl, rfl, rfl⟩ ?_
 rintro m env σ ⟨a, b, e, rfl, rfl, rfl⟩
 have hla : l.length = a.length + b.length := by rw [e, lA]
 cases b with
 | nil =>
  rw [List.length_nil] at hla
  repeat' (first | refine goR rfl ?_ | refine goS rfl ?_ | refine tret1 rfl ?_ | refine tretN rfl ?_ | refine gY rfl rfl ?_ | refine gN rfl rfl ?_ | refine qT rfl rfl ?_ | refine qF rfl rfl ?_ | refine qF rfl (dF (by omega)) ?_ | fail)
  exact .fr rfl
 | cons x b =>
  have hx : l[a.length]? = some x := by rw [e]; exact ix
  simp only [List.length_cons] at hla
  have hw1 : IntKind.i64.wrap ((a.length : Int) + 1) = ((a ++ [x]).length : Int) := by rw [w64 (by omega), lA]; rfl
  repeat' (first | refine goR rfl ?_ | refine goS rfl ?_ | refine tret1 rfl ?_ | refine tretN rfl ?_ | refine gY rfl rfl ?_ | refine gN rfl rfl ?_ | refine qT rfl rfl ?_ | refine qF rfl rfl ?_ | refine qT rfl (dT (by omega)) ?_ | refine lT (tl_ixm rfl rfl rfl hx) ?_ | refine lT (tl_neT (by rw [hP]; exact sh_pick) (by rw [hP]; exact ag_pick) (by rw [hP]; exact eg_pick) rfl rfl rfl rfl rfl) ?_ | fail)
  refine again (m' := b.length) (Nat.lt_succ_self _) (w_sub [0, 1, 5] rfl) ⟨a ++ [x], b, by rw [e]; simp, rfl, by rw [hw1], rfl⟩
end
end Go.Proofs.YtnphhelbianjpaaDoor
