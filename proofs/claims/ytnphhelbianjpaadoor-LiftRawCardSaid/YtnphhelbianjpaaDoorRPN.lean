/-
  Walks of functions of the program, and what the laws need of them.
-/
import Derived.Test.YtnphhelbianjpaaDoorRPL
import Derived.Test.YtnphhelbianjpaaDoorRPM
import Derived.Test.YtnphhelbianjpaaDoorRPH
import Derived.Test.YtnphhelbianjpaaDoorRPI
import Derived.Test.YtnphhelbianjpaaDoorVI
import Derived.Test.YtnphhelbianjpaaDoorRPG
set_option linter.all false
set_option linter.unusedSimpArgs false
set_option linter.unusedVariables false
set_option linter.unnecessarySimpa false
namespace Go.Proofs.YtnphhelbianjpaaDoor
set_option maxRecDepth 20000
open Go Go.Proofs.YtnphhelbianjpaaDoor.V Go.Proofs
def scL (p : Prg) (s : State) (l : List Int) : State := l.foldl (fun s t => (scW p s t).1) s
theorem scL_app (p : Prg) (s : State) (a b : List Int) : scL p s (a ++ b) = scL p (scL p s a) b := List.foldl_append ..
def ptB (pts : List (List Int)) (t : Nat) (pc : Int) : Bool := decide (pc ∈ pts.getD t [])
def upB (pts : List (List Int)) : Nat → Nat → List Pk
 | _, 0 => []
 | t, n + 1 => (if ptB pts t 0 = true then [((t : Int), false)] else []) ++ upB pts (t + 1) n
def upX (p : Prg) (pts : List (List Int)) (s : State) (t : Int) : List Pk := match s.thr[t.toNat]?, (scW p s t).1.thr[t.toNat]? with
 | some x, some y => ((t, false) :: if (nextW p t x).kind = 3 then [(t, true)] else []) ++ if y.st = 0 ∧ y.ph = 0 ∧ ptB pts t.toNat y.pc = true then [(t, false)] else []
 | _, _ => []
def upS (p : Prg) (pts : List (List Int)) (s : State) (t : Int) : List Pk := if (scW p s t).2 = true then upX p pts s t else []
def upL (p : Prg) (pts : List (List Int)) : State → List Int → List Pk
 | _, [] => []
 | s, t :: l => upS p pts s t ++ upL p pts (scW p s t).1 l
def liftL (p : Prg) (pts : List (List Int)) (l : List Int) : List Pk := upB pts 0 p.threads.length ++ upL p pts (start0 p) l
theorem upL_app (p : Prg) (pts : List (List Int)) : ∀ (a b : List Int) (s : State), upL p pts s (a ++ b) = upL p pts s a ++ upL p pts (scL p s a) b
 | [], _, _ => rfl
 | t :: a, b, s => by
  show upS p pts s t ++ upL p pts _ (a ++ b) = (upS p pts s t ++ upL p pts _ a) ++ _
  rw [upL_app p pts a b, List.append_assoc]; rfl
theorem upB_len (pts : List (List Int)) : ∀ (n t : Nat), (upB pts t n).length ≤ n
 | 0, _ => Nat.le_refl _
 | n + 1, t => by
  have := upB_len pts n (t + 1)
  rw [upB, lA]
  split <;> simp only [List.length_cons, List.length_nil] <;> omega
theorem upS_len (p : Prg) (pts : List (List Int)) (s : State) (t : Int) : (upS p pts s t).length ≤ 3 := by
 unfold upS upX
 split
 ·split
  ·rw [lA, List.length_cons]
   split <;> split <;> simp
  ·simp
 ·simp
theorem upL_len (p : Prg) (pts : List (List Int)) : ∀ (l : List Int) (s : State), (upL p pts s l).length ≤ 3 * l.length
 | [], _ => Nat.le_refl _
 | t :: l, s => by
  have h1 := upS_len p pts s t
  have h2 := upL_len p pts l (scW p s t).1
  rw [upL, lA, List.length_cons]; omega
theorem lift_len (p : Prg) (pts : List (List Int)) (l : List Int) : (liftL p pts l).length ≤ 3 * l.length + p.threads.length := by
 have h1 := upB_len pts p.threads.length 0
 have h2 := upL_len p pts l (start0 p)
 unfold liftL
 rw [lA]; omega
theorem lift_app (p : Prg) (pts : List (List Int)) (a b : List Int) : ∃ c, liftL p pts (a ++ b) = liftL p pts a ++ c := ⟨_, by unfold liftL; rw [upL_app, List.append_assoc]⟩
end Go.Proofs.YtnphhelbianjpaaDoor
namespace Go.Proofs.YtnphhelbianjpaaDoor
set_option maxRecDepth 20000
open Go Go.Proofs.YtnphhelbianjpaaDoor.V Go.Proofs
theorem upB_snoc (pts : List (List Int)) : ∀ (n t : Nat), upB pts t (n + 1) = upB pts t n ++ (if ptB pts (t + n) 0 = true then [(((t + n : Nat) : Int), false)] else [])
 | 0, t => by
  show (if _ then _ else []) ++ [] = [] ++ _
  rw [List.append_nil, List.nil_append]; rfl
 | n + 1, t => by
  show (if _ then _ else []) ++ upB pts (t + 1) (n + 1) = ((if _ then _ else []) ++ upB pts (t + 1) n) ++ _
  rw [upB_snoc pts n (t + 1), List.append_assoc, show t + 1 + n = t + (n + 1) by omega]
theorem upL_snoc (p : Prg) (pts : List (List Int)) (s : State) (a : List Int) (x : Int) : upL p pts s (a ++ [x]) = upL p pts s a ++ upS p pts (scL p s a) x := by
 rw [upL_app]
 show upL p pts s a ++ (upS p pts _ x ++ []) = _
 rw [List.append_nil]
theorem scL_snoc (p : Prg) (s : State) (a : List Int) (x : Int) : scL p s (a ++ [x]) = (scW p (scL p s a) x).1 := by rw [scL_app]; rfl
theorem scL_ok {p : Prg} (hn : numsOk p) : ∀ (l : List Int) {s : State}, stQ p s → stQ p (scL p s l) ∧ (scL p s l).thr.length = s.thr.length ∧ (scL p s l).bufs = s.bufs
 | [], _, h => ⟨h, rfl, rfl⟩
 | x :: l, s, h => by
  obtain ⟨h1, h2, h3, _⟩ := scW_ok hn h x
  obtain ⟨g1, g2, g3⟩ := scL_ok hn l h1
  exact ⟨g1, g2.trans h2, g3.trans h3⟩
theorem upS_no {p : Prg} {pts : List (List Int)} {s : State} {t : Int} (h : (scW p s t).2 = false) : upS p pts s t = [] := by
 unfold upS; rw [if_neg (by rw [h]; exact Bool.false_ne_true)]
theorem upS_do {p : Prg} {pts : List (List Int)} {s : State} {k : Nat} {y y' : Thr} (hd : (scW p s k).2 = true) (hy : s.thr[k]? = some y) (hy' : (scW p s k).1.thr[k]? = some y') :
  upS p pts s (k : Int) = (((k : Int), false) :: if (nextW p k y).kind = 3 then [((k : Int), true)] else []) ++ if y'.st = 0 ∧ y'.ph = 0 ∧ ptB pts k y'.pc = true then [((k : Int), false)] else [] := by
 unfold upS upX
 rw [if_pos hd, Int.toNat_natCast, hy, hy']
theorem scW_in {p : Prg} {s : State} {t : Int} (h : (scW p s t).2 = true) : ∃ k : Nat, t = (k : Int) ∧ k < s.thr.length := by
 unfold scW at h
 split at h
 ·rename_i h0
  cases hg : s.thr[t.toNat]? with
  | none => rw [hg] at h; cases h
  | some x => exact ⟨t.toNat, by omega, (List.getElem?_eq_some_iff.1 hg).1⟩
 ·cases h
section
attribute [local irreducible] TwS TwR thenT inBlockT retT nextW localW loadedW swapW scW upB upL
set_option maxHeartbeats 20000000 in
theorem up_spec (p : Prg) (ho : okP p) (hc : checkC p = 0) (hn : numsOk p) (hq : stQ p (start0 p)) (hb : ∀ t ∈ p.threads, t.length ≤ 100000) (pts : List (List Int)) (hp0 : pts.length ≤ p.threads.length) (hp1 : ∀ l ∈ pts, l.length ≤ 1000000) (hi : inL pts p.threads = true) (l : List Int) (hl : l.length ≤ 1000) :
  Pure prog Tabs 11 [.agg (cPrg p), ptR pts, rwI l] (.lst 2 ((liftL p pts l).map cPick)) := by
 have cI := weaveIn_spec p ho hc hb pts hp0 hp1
 rw [if_pos hi] at cI
 obtain ⟨_, hk2, _, _⟩ := check_syms hc
 have hmt : (p.threads.map cTh).length = p.threads.length := lM ..
 have hml : (l.map fun n => [tI n]).length = l.length := lM ..
 have cM := make_spec p ho hc
 have cN := new_own p ho hc (start_okS hc) rfl
 refine Pure.at mixedOk F11 rfl fun C hP hG hp => goF ?_; simp only [F11, targEnv, Nat.zero_add, Nat.reduceAdd]
 repeat' (first | refine goR rfl ?_ | refine goS rfl ?_ | refine tret1 rfl ?_ | refine tretN rfl ?_ | refine gY rfl rfl ?_ | refine gN rfl rfl ?_ | refine qT rfl rfl ?_ | refine qF rfl rfl ?_ | refine cA rfl (by rw [hP, hG]; exact cI) rfl ?_ | refine tr_weak (w_freezeP 4 rfl rfl rfl) (lT (tl_clo rfl rfl) ?_) | fail)
 refine loopS (fun m env σ => ∃ k : Nat, k ≤ p.threads.length ∧ m = p.threads.length - k ∧ env = [(2, rwI l), (3, .p 0 0), (9, .fn 18 [.fp [ptR pts] 0]), (10, .s 1 2 0 (upB pts 0 k).length true), (29, tI (p.threads.map cTh).length), (30, tI k)] ∧
  σ = ⟨[(0, .cells (cPrg p) 28), (1, .rows 2 ((upB pts 0 k).map cPick) 60)], 60⟩) p.threads.length ((w_virt (d := 10) 2 60 rfl).trans (w_canon 60 [] [2, 3, 9, 10, 29, 30] hp rfl rfl rfl rfl)) ⟨0, Nat.zero_le _, rfl, by unfold upB; rfl, by unfold upB; rfl⟩ ?_
 rintro m1 env σ ⟨k, hk, rfl, rfl, rfl⟩
 by_cases hkl : k < p.threads.length
 ·have cP := point_spec (G := Tabs) pts (by omega) hp1 k 0
  have hub := upB_len pts k 0
  have hsn := upB_snoc pts k 0
  rw [Nat.zero_add] at hsn
  have hw1 : IntKind.i64.wrap ((k : Int) + 1) = ((k + 1 : Nat) : Int) := by rw [w64 (by omega)]; rfl
  have cP : Pure prog Tabs 18 [tI k, tI 0, .fp [ptR pts] 0] (tB (ptB pts k 0)) := cP
  cases hpt : ptB pts k 0 with
  | true =>
   rw [hpt] at cP
   rw [hpt, if_pos rfl] at hsn
   repeat' (first | refine goR rfl ?_ | refine goS rfl ?_ | refine tret1 rfl ?_ | refine tretN rfl ?_ | refine gY rfl rfl ?_ | refine gN rfl rfl ?_ | refine qT rfl rfl ?_ | refine qF rfl rfl ?_ | refine qT rfl (dT (by omega)) ?_ | refine tr_callC (r := tB true) rfl rfl (by rw [hP, hG]; exact cP) rfl ?_ | refine tr_append rfl rfl (by rw [lM]) (.inr (.inr ⟨_, _, _, _, rfl, rfl, rfl⟩)) (by simp only [List.length_cons, List.length_nil]; omega) rfl ?_ | fail)
   exact again (m' := p.threads.length - (k + 1)) (by omega) (w_canon 60 [] [2, 3, 9, 10, 29, 30] hp rfl rfl rfl rfl) ⟨k + 1, by omega, rfl, by rw [hw1, hsn, lA]; rfl, by rw [hsn, List.map_append]; rfl⟩
  | false =>
   rw [hpt] at cP
   rw [hpt, if_neg Bool.false_ne_true, List.append_nil] at hsn
   repeat' (first | refine goR rfl ?_ | refine goS rfl ?_ | refine tret1 rfl ?_ | refine tretN rfl ?_ | refine gY rfl rfl ?_ | refine gN rfl rfl ?_ | refine qT rfl rfl ?_ | refine qF rfl rfl ?_ | refine qT rfl (dT (by omega)) ?_ | refine tr_callC (r := tB false) rfl rfl (by rw [hP, hG]; exact cP) rfl ?_ | fail)
   exact again (m' := p.threads.length - (k + 1)) (by omega) (w_canon 60 [] [2, 3, 9, 10, 29, 30] hp rfl rfl rfl rfl) ⟨k + 1, by omega, rfl, by rw [hw1, hsn], by rw [hsn]; rfl⟩
 ·have hkn : k = p.threads.length := by omega
  subst hkn
  have hub := upB_len pts p.threads.length 0
  obtain ⟨U, hU⟩ : ∃ U, U = upB pts 0 p.threads.length := ⟨_, rfl⟩
  rw [← hU] at hub
  have hLL : liftL p pts l = U ++ upL p pts (start0 p) l := by rw [hU]; rfl
  rw [← hU, hLL]
  clear hU hLL
  have hu0 : upL p pts (start0 p) [] = [] := by unfold upL; rfl
  repeat' (first | refine goR rfl ?_ | refine goS rfl ?_ | refine tret1 rfl ?_ | refine tretN rfl ?_ | refine gY rfl rfl ?_ | refine gN rfl rfl ?_ | refine qT rfl rfl ?_ | refine qF rfl rfl ?_ | refine qF rfl (dF (by omega)) ?_ | refine cA rfl (by rw [hP, hG]; exact cM) rfl ?_ | refine tr_mcallX hP hG (cN) rfl rfl rfl rfl rfl rfl rfl rfl rfl rfl rfl rfl ?_ | fail)
  refine loopS (fun m env σ => ∃ a b, l = a ++ b ∧ m = b.length ∧ env = [(9, .fn 18 [.fp [ptR pts] 0]), (10, .s 0 2 0 (U ++ upL p pts (start0 p) a).length true), (12, .fp (cCore p) 0), (13, .p 1 0), (46, rwI l), (47, tI (l.map fun n => [tI n]).length), (48, tI a.length)] ∧
   σ = ⟨(0, .rows 2 ((U ++ upL p pts (start0 p) a).map cPick) 60) :: scM p (scL p (start0 p) a) 1, 60⟩) l.length (w_canon 60 [] [9, 10, 12, 13, 46, 47, 48] hp rfl rfl rfl rfl) ⟨[], l, rfl, rfl, by rw [hu0, List.append_nil]; rfl, by rw [hu0, List.append_nil]; rfl⟩ ?_
  rintro m2 env σ ⟨a, b, e, rfl, rfl, rfl⟩
  have hla : l.length = a.length + b.length := by rw [e, lA]
  cases b with
  | nil =>
   rw [List.length_nil] at hla
   rw [List.append_nil] at e
   subst e
   repeat' (first | refine goR rfl ?_ | refine goS rfl ?_ | refine tret1 rfl ?_ | refine tretN rfl ?_ | refine gY rfl rfl ?_ | refine gN rfl rfl ?_ | refine qT rfl rfl ?_ | refine qF rfl rfl ?_ | refine qF rfl (dF (by omega)) ?_ | fail)
   show Fz _ _ (.lst 2 ((U ++ upL p pts (start0 p) l).map cPick))
   (repeat' first | exact FzL.nil | refine FzL.cons ?_ ?_ | exact Fz.fr rfl | exact Fz.nil _ | exact Fz.s _ _ _ _ _ _ rfl (lM ..).symm | exact Fz.s _ _ _ _ _ _ rfl rfl | refine Fz.pL rfl ?_ | refine Fz.aggL ?_); first | done | fail
  | cons x b =>
   have hx : l[a.length]? = some x := by rw [e]; exact ix
   simp only [List.length_cons] at hla
   have hw1 : IntKind.i64.wrap ((a.length : Int) + 1) = ((a ++ [x]).length : Int) := by rw [w64 (by omega), lA]; rfl
   have hul := upL_len p pts a (start0 p)
   have hus := upL_snoc p pts (start0 p) a x
   have hss := scL_snoc p (start0 p) a x
   obtain ⟨g1, g2, g3⟩ := scL_ok hn a hq
   have g2 : (scL p (start0 p) a).thr.length = p.threads.length := g2.trans (List.length_replicate ..)
   obtain ⟨f1, f2, f3, _⟩ := scW_ok hn g1 x
   generalize scL p (start0 p) a = s at *
   have cS := state_own (G := Tabs) p s (stQ_okS hc g1 g2 g3) g3
   have cT := step_own p ho hc s g1 (by omega) x
   have cS2 := state_own (G := Tabs) p (scW p s x).1 (stQ_okS hc f1 (f2.trans g2) (f3.trans g3)) (f3.trans g3)
   have hOl : (U ++ upL p pts (start0 p) a).length ≤ 64 + 3 * a.length := by rw [lA]; omega
   obtain ⟨O, hO⟩ : ∃ O, O = U ++ upL p pts (start0 p) a := ⟨_, rfl⟩
   have hOs : U ++ upL p pts (start0 p) (a ++ [x]) = O ++ upS p pts s x := by rw [hus, hO, List.append_assoc]
   rw [← hO] at hOl
   rw [← hO]
   clear hO hus hul
   cases hd : (scW p s x).2 with
   | false =>
    rw [upS_no hd, List.append_nil] at hOs
    rw [hd] at cT
    clear cS2
    repeat' (first | refine goR rfl ?_ | refine goS rfl ?_ | refine tret1 rfl ?_ | refine tretN rfl ?_ | refine gY rfl rfl ?_ | refine gN rfl rfl ?_ | refine qT rfl rfl ?_ | refine qF rfl rfl ?_ | refine qT rfl (dT (by omega)) ?_ | refine lT (tl_ixm rfl rfl rfl hx) ?_ | refine tr_mcallX hP hG (cS) rfl rfl rfl rfl rfl rfl rfl rfl rfl rfl rfl rfl ?_ | refine tr_mcallX hP hG (cT) rfl rfl rfl rfl rfl rfl rfl rfl rfl rfl rfl rfl ?_ | fail)
    exact again (m' := b.length) (Nat.lt_succ_self _) (w_canon 60 [] [9, 10, 12, 13, 46, 47, 48] hp rfl rfl rfl rfl) ⟨a ++ [x], b, by rw [e]; simp, rfl, by rw [hw1, hOs], by rw [hOs, hss]; rfl⟩
   | true =>
    obtain ⟨k, rfl, hks⟩ := scW_in hd
    have hy : s.thr[k]? = some s.thr[k] := List.getElem?_eq_getElem hks
    have hy' : (scW p s k).1.thr[k]? = some ((scW p s k).1.thr[k]'(by omega)) := List.getElem?_eq_getElem (by omega)
    generalize s.thr[k] = y at hy
    generalize (scW p s k).1.thr[k]'_ = y' at hy'
    have hu := upS_do (pts := pts) hd hy hy'
    have cX := next_spec p ho hc k y (g1.thr _ (List.mem_of_getElem? hy)).r
    have cP : Pure prog Tabs 18 [tI k, tI y'.pc, .fp [ptR pts] 0] (tB (ptB pts k y'.pc)) := point_spec (G := Tabs) pts (by omega) hp1 k y'.pc
    rw [hd] at cT
    rw [hu] at hOs
    clear hu
    generalize (scW p s k).1 = s' at *
    generalize ptB pts k y'.pc = bb at *
    generalize nextW p k y = d at *
    obtain ⟨dk, da, dv⟩ := d
    simp only at hOs
    have h4 : y'.st ≠ 0 ∨ (y'.st = 0 ∧ y'.ph ≠ 0) ∨ (y'.st = 0 ∧ y'.ph = 0 ∧ bb = false) ∨ (y'.st = 0 ∧ y'.ph = 0 ∧ bb = true) := by
     cases bb <;> by_cases h1 : y'.st = 0 <;> by_cases h2 : y'.ph = 0 <;> simp [h1, h2]
    by_cases h3 : dk = 3
    all_goals
     first | rw [if_pos h3] at hOs | rw [if_neg h3] at hOs
     rcases h4 with h1 | ⟨h1, h2⟩ | ⟨h1, h2, rfl⟩ | ⟨h1, h2, rfl⟩
     all_goals
      first | simp only [h1, h2, true_and, and_true, false_and, and_false, if_true, if_false, Bool.false_eq_true, and_self] at hOs | simp only [h1, false_and, if_false] at hOs
      repeat' (first | refine goR rfl ?_ | refine goS rfl ?_ | refine tret1 rfl ?_ | refine tretN rfl ?_ | refine gY rfl rfl ?_ | refine gN rfl rfl ?_ | refine qT rfl rfl ?_ | refine qF rfl rfl ?_ | refine qT rfl (dT (by omega)) ?_ | refine qT rfl (dT h3) ?_ | refine qF rfl (dF h3) ?_ | refine lT (tl_ixm rfl rfl rfl hx) ?_ | refine lT (tl_ixm rfl rfl rfl hy) ?_ | refine lT (tl_ixm rfl rfl rfl hy') ?_ | (refine tr_mcallX hP hG (cS) rfl rfl rfl rfl rfl rfl rfl rfl rfl rfl rfl rfl ?_; refine tr_frzA 53 0 rfl rfl rfl (lM ..).symm ?_; refine tr_frzA 53 1 rfl rfl rfl (lM ..).symm ?_) | (refine tr_mcallX hP hG (cS2) rfl rfl rfl rfl rfl rfl rfl rfl rfl rfl rfl rfl ?_; refine tr_frzA 79 0 rfl rfl rfl (lM ..).symm ?_; refine tr_frzA 79 1 rfl rfl rfl (lM ..).symm ?_) | refine tr_mcallX hP hG (cT) rfl rfl rfl rfl rfl rfl rfl rfl rfl rfl rfl rfl ?_ | refine cA rfl (by rw [hP, hG]; exact cX) rfl ?_ | refine tg_t rfl (dT h1) ?_ | refine tg_f rfl (dF h1) ?_ | refine tg_t rfl (dT h2) ?_ | refine tg_f rfl (dF h2) ?_ | refine tr_callC (r := tB true) rfl rfl (by rw [hP, hG]; exact cP) rfl ?_ | refine tr_callC (r := tB false) rfl rfl (by rw [hP, hG]; exact cP) rfl ?_ | refine tr_append rfl rfl (by simp only [lA, lM, List.length_cons, List.length_nil]) (.inr (.inr ⟨_, _, _, _, rfl, rfl, rfl⟩)) (by simp only [List.length_cons, List.length_nil]; omega) rfl ?_ | fail)
      refine again (m' := b.length) (Nat.lt_succ_self _) (w_canon 60 [] [9, 10, 12, 13, 46, 47, 48] hp rfl rfl rfl rfl) ⟨a ++ [(k : Int)], b, by rw [e]; simp, rfl, ?_, ?_⟩
      ·rw [hw1, hOs, @lA _ O]; rfl
      ·rw [hOs, hss, @List.map_append _ _ _ O]; first | rfl | (simp only [List.append_assoc]; rfl)
set_option maxHeartbeats 20000000 in
theorem up_no (p : Prg) (ho : okP p) (pts : List (List Int)) (hp0 : pts.length ≤ 1000000) (h : checkC p ≠ 0 ∨ pts.length > p.threads.length) (l : List Int) : Pure prog Tabs 11 [.agg (cPrg p), ptR pts, rwI l] (.v (.slice none 0 0)) := by
 have cI := weaveIn_no p ho pts hp0 h
 refine Pure.at mixedOk F11 rfl fun C hP hG hp => goF ?_; simp only [F11, targEnv, Nat.zero_add, Nat.reduceAdd]
 repeat' (first | refine goR rfl ?_ | refine goS rfl ?_ | refine tret1 rfl ?_ | refine tretN rfl ?_ | refine gY rfl rfl ?_ | refine gN rfl rfl ?_ | refine qT rfl rfl ?_ | refine qF rfl rfl ?_ | refine cA rfl (by rw [hP, hG]; exact cI) rfl ?_ | fail)
 exact .fr rfl
set_option maxHeartbeats 20000000 in
theorem up_bad (p : Prg) (ho : okP p) (hc : checkC p = 0) (hb : ∀ t ∈ p.threads, t.length ≤ 100000) (pts : List (List Int)) (hp0 : pts.length ≤ p.threads.length) (hp1 : ∀ l ∈ pts, l.length ≤ 1000000) (hi : inL pts p.threads = false) (l : List Int) :
  Pure prog Tabs 11 [.agg (cPrg p), ptR pts, rwI l] (.v (.slice none 0 0)) := by
 have cI := weaveIn_spec p ho hc hb pts hp0 hp1
 rw [if_neg (by rw [hi]; exact Bool.false_ne_true)] at cI
 refine Pure.at mixedOk F11 rfl fun C hP hG hp => goF ?_; simp only [F11, targEnv, Nat.zero_add, Nat.reduceAdd]
 repeat' (first | refine goR rfl ?_ | refine goS rfl ?_ | refine tret1 rfl ?_ | refine tretN rfl ?_ | refine gY rfl rfl ?_ | refine gN rfl rfl ?_ | refine qT rfl rfl ?_ | refine qF rfl rfl ?_ | refine cA rfl (by rw [hP, hG]; exact cI) rfl ?_ | fail)
 exact .fr rfl
end
end Go.Proofs.YtnphhelbianjpaaDoor
namespace Go.Proofs.YtnphhelbianjpaaDoor
set_option maxRecDepth 20000
open Go Go.Proofs.YtnphhelbianjpaaDoor.V Go.Proofs
theorem nil_at {P : Program} {G : World → Prop} {f : FuncId} {r : TV} (a b : List TV) (sz : Nat) (h : Pure P G f (a ++ .lst sz [] :: b) r) : Pure P G f (a ++ .v (.slice none 0 0) :: b) r := by
 intro w0 st Φ vargs h1 h2 h3 h4
 refine h w0 st Φ vargs h1 h2 h3 ⟨by have := h4.len; simpa using this, fun i x y hx hy => ?_⟩
 by_cases hi : i = a.length
 ·subst hi
  rw [List.getElem?_append_right (Nat.le_refl _), Nat.sub_self] at hx
  cases hx
  have h5 := h4.rel a.length (.v (.slice none 0 0)) y (by rw [List.getElem?_append_right (Nat.le_refl _), Nat.sub_self]; rfl) hy
  cases h5
  exact .lst sz [] none 0 0 [] rfl (by decide) (fun a0 h => by cases h) (fun _ => Nat.le_refl _) (fun a0 h => by cases h) (fun x h => by cases h) (fun h => absurd rfl h) (fun j y z h => by simp at h)
 ·refine h4.rel i x y ?_ hy
  rw [← hx]
  by_cases hl : i < a.length
  ·rw [List.getElem?_append_left hl, List.getElem?_append_left hl]
  ·rw [List.getElem?_append_right (by omega), List.getElem?_append_right (by omega)]
   obtain ⟨n, hn⟩ : ∃ n, i - a.length = n + 1 := ⟨i - a.length - 1, by omega⟩
   rw [hn]; rfl
def pL : Prg := ⟨[⟨bs [120], 1, []⟩], [[mkI 1 false 0 ⟨3, 0, 0, 0⟩ ⟨2, 0, 0, 1⟩ (bs []), hltI]]⟩
theorem pL_ok : checkC pL = 0 := by kernel_rfl
theorem pL_okP : okP pL := by
 refine okP_small (by decide) ?_ (by decide) ?_
 ·intro s hs; simp only [pL, List.mem_singleton] at hs; subst hs; decide
 ·intro t ht
  simp only [pL, List.mem_singleton] at ht
  subst ht
  refine ⟨by decide, by decide, ?_⟩
  intro i hi
  simp only [List.mem_cons, List.not_mem_nil, or_false] at hi
  rcases hi with rfl | rfl <;> exact ⟨by decide, by decide, fun l hl => by cases hl⟩
theorem pL_nums : numsOk pL := by
 intro l hl i hi
 simp only [pL, List.mem_singleton] at hl
 subst hl
 simp only [List.mem_cons, List.not_mem_nil, or_false] at hi
 rcases hi with rfl | rfl <;> (unfold inR; decide)
theorem pL_mem : ∀ v ∈ startF pL.syms, inR v := fun v hv => by
 have : v ∈ [(0 : Int)] := hv
 rw [List.mem_singleton.1 this]; unfold inR; decide
theorem pL_b : ∀ t ∈ pL.threads, t.length ≤ 100000 := fun t ht => by
 simp only [pL, List.mem_singleton] at ht
 subst ht; decide
theorem pL_1 : liftL pL [] [0, 0] = [(0, false), (0, true), (0, false)] := by kernel_rfl
theorem pL_2 : liftL pL [[0]] [] = [(0, false)] := by kernel_rfl
section
attribute [local irreducible] TwS TwR thenT inBlockT retT nextW localW loadedW swapW scW liftL
set_option maxHeartbeats 20000000 in
theorem aliveL_spec : Pure prog Tabs 7 [] (tB true) := by
 have hq := start_q (p := pL) pL_mem
 have c1 := up_spec pL pL_okP pL_ok pL_nums hq pL_b [] (by decide) (fun l h => by cases h) (by kernel_rfl) [0, 0] (by decide)
 have c2 := up_spec pL pL_okP pL_ok pL_nums hq pL_b [[0]] (by decide) (fun l h => by rw [List.mem_singleton.1 h]; decide) (by kernel_rfl) [] (by decide)
 have c3 := up_bad pL pL_okP pL_ok pL_b [[2]] (by decide) (fun l h => by rw [List.mem_singleton.1 h]; decide) (by kernel_rfl) [0]
 rw [pL_1] at c1
 rw [pL_2] at c2
 have c1 := nil_at [.agg (cPrg pL)] [rwI [0, 0]] 1 c1
 have c2 := nil_at [.agg (cPrg pL), ptR [[0]]] [] 1 c2
 have c4 := samePicks_spec (G := Tabs) [(0, false), (0, true), (0, false)] (by decide)
 have c5 := samePicks_spec (G := Tabs) [(0, false)] (by decide)
 refine Pure.at mixedOk F7 rfl fun C hP hG hp => goF ?_; simp only [F7, targEnv, Nat.zero_add, Nat.reduceAdd]
 repeat' (first | refine goR rfl ?_ | refine goS rfl ?_ | refine tret1 rfl ?_ | refine tretN rfl ?_ | refine gY rfl rfl ?_ | refine gN rfl rfl ?_ | refine qT rfl rfl ?_ | refine qF rfl rfl ?_ | fail)
 refine tr_weak ((w_rowsA (k := 1) (ys := [cIns (mkI 1 false 0 ⟨3, 0, 0, 0⟩ ⟨2, 0, 0, 1⟩ (bs [])), cIns hltI]) rfl (by rfl) (by intro h; cases h) (by decide) ?_).trans (w_freeze (d := 9) (k := 1) rfl rfl (.aggL (.cons (.s 2 true rfl) .nil)))) ?_
 ·repeat' (first | exact .nil | refine .cons ?_ ?_ | exact .nil 1 | exact .refl _)
 refine goRn 1 rfl ?_
 refine tr_weak ((w_rowsA (k := 0) (ys := pL.syms.map cSym) rfl (by rfl) (by intro h; cases h) (by decide) ?_).trans ((w_freeze (d := 11) (k := 0) rfl rfl (.aggL (.cons (.s 1 true rfl) (.cons (.refl _) .nil)))).trans (w_freeze (d := 11) (k := 2) rfl rfl (.aggL (.cons (.refl _) (.cons (.s 1 true rfl) .nil)))))) ?_
 ·repeat' (first | exact .nil | refine .cons ?_ ?_ | exact .nil 1 | exact .refl _)
 repeat' (first | refine goR rfl ?_ | refine goS rfl ?_ | refine tret1 rfl ?_ | refine tretN rfl ?_ | refine gY rfl rfl ?_ | refine gN rfl rfl ?_ | refine qT rfl rfl ?_ | refine qF rfl rfl ?_ | refine cA rfl (by rw [hP, hG]; exact c1) rfl ?_ | refine tr_frzS 13 rfl rfl rfl ?_ | refine tr_frzS 18 rfl rfl rfl ?_ | refine cA rfl (by rw [hP, hG]; exact c4) rfl ?_ | refine tr_frzS 22 rfl rfl rfl ?_ | refine tr_frzS 23 rfl rfl rfl ?_ | refine cA rfl (by rw [hP, hG]; exact c2) rfl ?_ | refine tr_frzS 26 rfl rfl rfl ?_ | refine cA rfl (by rw [hP, hG]; exact c5) rfl ?_ | refine tr_frzS 31 rfl rfl rfl ?_ | refine tr_frzS 32 rfl rfl rfl ?_ | refine tr_frzS 33 rfl rfl rfl ?_ | refine cA rfl (by rw [hP, hG]; exact c3) rfl ?_ | fail)
 exact .fr rfl
end
end Go.Proofs.YtnphhelbianjpaaDoor
