/-
  Walks of functions of the program, and what the laws need of them.
-/
import Derived.Test.YtnphhelbianjpaaGreatDoorRPL
import Derived.Test.YtnphhelbianjpaaGreatDoorRPM
import Derived.Test.YtnphhelbianjpaaGreatDoorRPH
import Derived.Test.YtnphhelbianjpaaGreatDoorRPI
import Derived.Test.YtnphhelbianjpaaGreatDoorVI
import Derived.Test.YtnphhelbianjpaaGreatDoorRPG
set_option linter.all false
set_option linter.unusedSimpArgs false
set_option linter.unusedVariables false
set_option linter.unnecessarySimpa false
namespace Go.Proofs.YtnphhelbianjpaaGreatDoor
set_option maxRecDepth 20000
open Go Go.Proofs.YtnphhelbianjpaaGreatDoor.V Go.Proofs
def scL (p : Prg) (s : State) (l : List Int) : State := l.foldl (fun s t => (scW p s t).1) s
theorem scL_app (p : Prg) (s : State) (a b : List Int) : scL p s (a ++ b) = scL p (scL p s a) b := List.foldl_append ..
def ptB (pts : List (List Int)) (t : Nat) (pc : Int) : Bool := decide (pc ∈ pts.getD t [])
def upB (pts : List (List Int)) : Nat → Nat → List Pk
 | _, 0 => []
 | t, n + 1 => (if ptB pts t 0 = true then [((t : Int), false)] else []) ++ upB pts (t + 1) n
def upX (p : Prg) (pts : List (List Int)) (s : State) (t : Int) : List Pk := match s.thr[t.toNat]?, (scW p s t).1.thr[t.toNat]? with
 | some x, some y => ((t, false) :: if (nextW p t x).kind = 3 then [(t, true)] else []) ++ if y.st = 0 ∧ y.ph = 0 ∧ ptB pts t.toNat y.pc = true then [(t, false)] else []
 | _, _ => []
def upS (p : Prg) (pts : List (List Int)) (s : State) (t : Int) : List Pk := if (scW p s t).2 = true then upX p pts s t else []
def upL (p : Prg) (pts : List (List Int)) : State → List Int → List Pk
 | _, [] => []
 | s, t :: l => upS p pts s t ++ upL p pts (scW p s t).1 l
def liftL (p : Prg) (pts : List (List Int)) (l : List Int) : List Pk := upB pts 0 p.threads.length ++ upL p pts (start0 p) l
theorem upL_app (p : Prg) (pts : List (List Int)) : ∀ (a b : List Int) (s : State), upL p pts s (a ++ b) = upL p pts s a ++ upL p pts (scL p s a) b
 | [], _, _ => rfl
 | t :: a, b, s => by
  show upS p pts s t ++ upL p pts _ (a ++ b) = (upS p pts s t ++ upL p pts _ a) ++ _
  rw [upL_app p pts a b, List.append_assoc]; rfl
theorem upB_len (pts : List (List Int)) : ∀ (n t : Nat), (upB pts t n).length ≤ n
 | 0, _ => Nat.le_refl _
 | n + 1, t => by
  have := upB_len pts n (t + 1)
  rw [upB, lA]
  split <;> simp only [List.length_cons, List.length_nil] <;> omega
theorem upS_len (p : Prg) (pts : List (List Int)) (s : State) (t : Int) : (upS p pts s t).length ≤ 3 := by
 unfold upS upX
 split
 ·split
  ·rw [lA, List.length_cons]
   split <;> split <;> simp
  ·simp
 ·simp
theorem upL_len (p : Prg) (pts : List (List Int)) : ∀ (l : List Int) (s : State), (upL p pts s l).length ≤ 3 * l.length
 | [], _ => Nat.le_refl _
 | t :: l, s => by
  have h1 := upS_len p pts s t
  have h2 := upL_len p pts l (scW p s t).1
  rw [upL, lA, List.length_cons]; omega
theorem lift_len (p : Prg) (pts : List (List Int)) (l : List Int) : (liftL p pts l).length ≤ 3 * l.length + p.threads.length := by
 have h1 := upB_len pts p.threads.length 0
 have h2 := upL_len p pts l (start0 p)
 unfold liftL
 rw [lA]; omega
end Go.Proofs.YtnphhelbianjpaaGreatDoor
namespace Go.Proofs.YtnphhelbianjpaaGreatDoor
set_option maxRecDepth 20000
open Go Go.Proofs.YtnphhelbianjpaaGreatDoor.V Go.Proofs
theorem upB_snoc (pts : List (List Int)) : ∀ (n t : Nat), upB pts t (n + 1) = upB pts t n ++ (if ptB pts (t + n) 0 = true then [(((t + n : Nat) : Int), false)] else [])
 | 0, t => by
  show (if _ then _ else []) ++ [] = [] ++ _
  rw [List.append_nil, List.nil_append]; rfl
 | n + 1, t => by
  show (if _ then _ else []) ++ upB pts (t + 1) (n + 1) = ((if _ then _ else []) ++ upB pts (t + 1) n) ++ _
  rw [upB_snoc pts n (t + 1), List.append_assoc, show t + 1 + n = t + (n + 1) by omega]
theorem upL_snoc (p : Prg) (pts : List (List Int)) (s : State) (a : List Int) (x : Int) : upL p pts s (a ++ [x]) = upL p pts s a ++ upS p pts (scL p s a) x := by
 rw [upL_app]
 show upL p pts s a ++ (upS p pts _ x ++ []) = _
 rw [List.append_nil]
theorem scL_snoc (p : Prg) (s : State) (a : List Int) (x : Int) : scL p s (a ++ [x]) = (scW p (scL p s a) x).1 := by rw [scL_app]; rfl
theorem scL_ok {p : Prg} (hn : numsOk p) : ∀ (l : List Int) {s : State}, stQ p s → stQ p (scL p s l) ∧ (scL p s l).thr.length = s.thr.length ∧ (scL p s l).bufs = s.bufs
 | [], _, h => ⟨h, rfl, rfl⟩
 | x :: l, s, h => by
  obtain ⟨h1, h2, h3, _⟩ := scW_ok hn h x
  obtain ⟨g1, g2, g3⟩ := scL_ok hn l h1
  exact ⟨g1, g2.trans h2, g3.trans h3⟩
theorem upS_no {p : Prg} {pts : List (List Int)} {s : State} {t : Int} (h : (scW p s t).2 = false) : upS p pts s t = [] := by
 unfold upS; rw [if_neg (by rw [h]; exact Bool.false_ne_true)]
theorem upS_do {p : Prg} {pts : List (List Int)} {s : State} {k : Nat} {y y' : Thr} (hd : (scW p s k).2 = true) (hy : s.thr[k]? = some y) (hy' : (scW p s k).1.thr[k]? = some y') :
  upS p pts s (k : Int) = (((k : Int), false) :: if (nextW p k y).kind = 3 then [((k : Int), true)] else []) ++ if y'.st = 0 ∧ y'.ph = 0 ∧ ptB pts k y'.pc = true then [((k : Int), false)] else [] := by
 unfold upS upX
 rw [if_pos hd, Int.toNat_natCast, hy, hy']
theorem scW_in {p : Prg} {s : State} {t : Int} (h : (scW p s t).2 = true) : ∃ k : Nat, t = (k : Int) ∧ k < s.thr.length := by
 unfold scW at h
 split at h
 ·rename_i h0
  cases hg : s.thr[t.toNat]? with
  | none => rw [hg] at h; cases h
  | some x => exact ⟨t.toNat, by omega, (List.getElem?_eq_some_iff.1 hg).1⟩
 ·cases h
section
attribute [local irreducible] TwS TwR thenT inBlockT retT nextW localW loadedW swapW scW upB upL
set_option maxHeartbeats 20000000 in
theorem up_spec (p : Prg) (ho : okP p) (hc : checkC p = 0) (hn : numsOk p) (hq : stQ p (start0 p)) (hb : ∀ t ∈ p.threads, t.length ≤ 100000) (pts : List (List Int)) (hp0 : pts.length ≤ p.threads.length) (hp1 : ∀ l ∈ pts, l.length ≤ 1000000) (hi : inL pts p.threads = true) (l : List Int) (hl : l.length ≤ 1000) :
  Pure prog Tabs 12 [.agg (cPrg p), ptR pts, rwI l] (.lst 2 ((liftL p pts l).map cPick)) := by
 have cI := weaveIn_spec p ho hc hb pts hp0 hp1
 rw [if_pos hi] at cI
 obtain ⟨_, hk2, _, _⟩ := check_syms hc
 have hmt : (p.threads.map cTh).length = p.threads.length := lM ..
 have hml : (l.map fun n => [tI n]).length = l.length := lM ..
 have cM := make_spec p ho hc
 have cN := new_own p ho hc (start_okS hc) rfl
 refine Pure.at mixedOk F12 rfl fun C hP hG hp => goF ?_; simp only [F12, targEnv, Nat.zero_add, Nat.reduceAdd]
 repeat' (first | refine goR rfl ?_ | refine goS rfl ?_ | refine tret1 rfl ?_ | refine tretN rfl ?_ | refine gY rfl rfl ?_ | refine gN rfl rfl ?_ | refine qT rfl rfl ?_ | refine qF rfl rfl ?_ | refine cA rfl (by rw [hP, hG]; exact cI) rfl ?_ | refine tr_weak (w_freezeP 4 rfl rfl rfl) (lT (tl_clo rfl rfl) ?_) | fail)
 refine loopS (fun m env σ => ∃ k : Nat, k ≤ p.threads.length ∧ m = p.threads.length - k ∧ env = [(2, rwI l), (3, .p 0 0), (9, .fn 29 [.fp [ptR pts] 0]), (10, .s 1 2 0 (upB pts 0 k).length true), (29, tI (p.threads.map cTh).length), (30, tI k)] ∧
  σ = ⟨[(0, .cells (cPrg p) 28), (1, .rows 2 ((upB pts 0 k).map cPick) 51)], 60⟩) p.threads.length ((w_virt (d := 10) 2 51 rfl).trans (w_canon 60 [] [2, 3, 9, 10, 29, 30] hp rfl rfl rfl rfl)) ⟨0, Nat.zero_le _, rfl, by unfold upB; rfl, by unfold upB; rfl⟩ ?_
 rintro m1 env σ ⟨k, hk, rfl, rfl, rfl⟩
 by_cases hkl : k < p.threads.length
 ·have cP := point_spec (G := Tabs) pts (by omega) hp1 k 0
  have hub := upB_len pts k 0
  have hsn := upB_snoc pts k 0
  rw [Nat.zero_add] at hsn
  have hw1 : IntKind.i64.wrap ((k : Int) + 1) = ((k + 1 : Nat) : Int) := by rw [w64 (by omega)]; rfl
  have cP : Pure prog Tabs 29 [tI k, tI 0, .fp [ptR pts] 0] (tB (ptB pts k 0)) := cP
  cases hpt : ptB pts k 0 with
  | true =>
   rw [hpt] at cP
   rw [hpt, if_pos rfl] at hsn
   repeat' (first | refine goR rfl ?_ | refine goS rfl ?_ | refine tret1 rfl ?_ | refine tretN rfl ?_ | refine gY rfl rfl ?_ | refine gN rfl rfl ?_ | refine qT rfl rfl ?_ | refine qF rfl rfl ?_ | refine qT rfl (dT (by omega)) ?_ | refine tr_callC (r := tB true) rfl rfl (by rw [hP, hG]; exact cP) rfl ?_ | refine tr_append rfl rfl (by rw [lM]) (.inr (.inr ⟨_, _, _, _, rfl, rfl, rfl⟩)) (by simp only [List.length_cons, List.length_nil]; omega) rfl ?_ | fail)
   exact again (m' := p.threads.length - (k + 1)) (by omega) (w_canon 60 [] [2, 3, 9, 10, 29, 30] hp rfl rfl rfl rfl) ⟨k + 1, by omega, rfl, by rw [hw1, hsn, lA]; rfl, by rw [hsn, List.map_append]; rfl⟩
  | false =>
   rw [hpt] at cP
   rw [hpt, if_neg Bool.false_ne_true, List.append_nil] at hsn
   repeat' (first | refine goR rfl ?_ | refine goS rfl ?_ | refine tret1 rfl ?_ | refine tretN rfl ?_ | refine gY rfl rfl ?_ | refine gN rfl rfl ?_ | refine qT rfl rfl ?_ | refine qF rfl rfl ?_ | refine qT rfl (dT (by omega)) ?_ | refine tr_callC (r := tB false) rfl rfl (by rw [hP, hG]; exact cP) rfl ?_ | fail)
   exact again (m' := p.threads.length - (k + 1)) (by omega) (w_canon 60 [] [2, 3, 9, 10, 29, 30] hp rfl rfl rfl rfl) ⟨k + 1, by omega, rfl, by rw [hw1, hsn], by rw [hsn]; rfl⟩
 ·have hkn : k = p.threads.length := by omega
  subst hkn
  have hub := upB_len pts p.threads.length 0
  obtain ⟨U, hU⟩ : ∃ U, U = upB pts 0 p.threads.length := ⟨_, rfl⟩
  rw [← hU] at hub
  have hLL : liftL p pts l = U ++ upL p pts (start0 p) l := by rw [hU]; rfl
  rw [← hU, hLL]
  clear hU hLL
  have hu0 : upL p pts (start0 p) [] = [] := by unfold upL; rfl
  repeat' (first | refine goR rfl ?_ | refine goS rfl ?_ | refine tret1 rfl ?_ | refine tretN rfl ?_ | refine gY rfl rfl ?_ | refine gN rfl rfl ?_ | refine qT rfl rfl ?_ | refine qF rfl rfl ?_ | refine qF rfl (dF (by omega)) ?_ | refine cA rfl (by rw [hP, hG]; exact cM) rfl ?_ | refine tr_mcallX hP hG (cN) rfl rfl rfl rfl rfl rfl rfl rfl rfl rfl rfl rfl ?_ | fail)
  refine loopS (fun m env σ => ∃ a b, l = a ++ b ∧ m = b.length ∧ env = [(9, .fn 29 [.fp [ptR pts] 0]), (10, .s 0 2 0 (U ++ upL p pts (start0 p) a).length true), (12, .fp (cCore p) 0), (13, .p 1 0), (46, rwI l), (47, tI (l.map fun n => [tI n]).length), (48, tI a.length)] ∧
   σ = ⟨(0, .rows 2 ((U ++ upL p pts (start0 p) a).map cPick) 51) :: scM p (scL p (start0 p) a) 1, 60⟩) l.length (w_canon 60 [] [9, 10, 12, 13, 46, 47, 48] hp rfl rfl rfl rfl) ⟨[], l, rfl, rfl, by rw [hu0, List.append_nil]; rfl, by rw [hu0, List.append_nil]; rfl⟩ ?_
  rintro m2 env σ ⟨a, b, e, rfl, rfl, rfl⟩
  have hla : l.length = a.length + b.length := by rw [e, lA]
  cases b with
  | nil =>
   rw [List.length_nil] at hla
   rw [List.append_nil] at e
   subst e
   repeat' (first | refine goR rfl ?_ | refine goS rfl ?_ | refine tret1 rfl ?_ | refine tretN rfl ?_ | refine gY rfl rfl ?_ | refine gN rfl rfl ?_ | refine qT rfl rfl ?_ | refine qF rfl rfl ?_ | refine qF rfl (dF (by omega)) ?_ | fail)
   show Fz _ _ (.lst 2 ((U ++ upL p pts (start0 p) l).map cPick))
   (repeat' first | exact FzL.nil | refine FzL.cons ?_ ?_ | exact Fz.fr rfl | exact Fz.nil _ | exact Fz.s _ _ _ _ _ _ rfl (lM ..).symm | exact Fz.s _ _ _ _ _ _ rfl rfl | refine Fz.pL rfl ?_ | refine Fz.aggL ?_); first | done | fail
  | cons x b =>
   have hx : l[a.length]? = some x := by rw [e]; exact ix
   simp only [List.length_cons] at hla
   have hw1 : IntKind.i64.wrap ((a.length : Int) + 1) = ((a ++ [x]).length : Int) := by rw [w64 (by omega), lA]; rfl
   have hul := upL_len p pts a (start0 p)
   have hus := upL_snoc p pts (start0 p) a x
   have hss := scL_snoc p (start0 p) a x
   obtain ⟨g1, g2, g3⟩ := scL_ok hn a hq
   have g2 : (scL p (start0 p) a).thr.length = p.threads.length := g2.trans (List.length_replicate ..)
   obtain ⟨f1, f2, f3, _⟩ := scW_ok hn g1 x
   generalize scL p (start0 p) a = s at *
   have cS := state_own (G := Tabs) p s (stQ_okS hc g1 g2 g3) g3
   have cT := step_own p ho hc s g1 (by omega) x
   have cS2 := state_own (G := Tabs) p (scW p s x).1 (stQ_okS hc f1 (f2.trans g2) (f3.trans g3)) (f3.trans g3)
   have hOl : (U ++ upL p pts (start0 p) a).length ≤ 64 + 3 * a.length := by rw [lA]; omega
   obtain ⟨O, hO⟩ : ∃ O, O = U ++ upL p pts (start0 p) a := ⟨_, rfl⟩
   have hOs : U ++ upL p pts (start0 p) (a ++ [x]) = O ++ upS p pts s x := by rw [hus, hO, List.append_assoc]
   rw [← hO] at hOl
   rw [← hO]
   clear hO hus hul
   cases hd : (scW p s x).2 with
   | false =>
    rw [upS_no hd, List.append_nil] at hOs
    rw [hd] at cT
    clear cS2
    repeat' (first | refine goR rfl ?_ | refine goS rfl ?_ | refine tret1 rfl ?_ | refine tretN rfl ?_ | refine gY rfl rfl ?_ | refine gN rfl rfl ?_ | refine qT rfl rfl ?_ | refine qF rfl rfl ?_ | refine qT rfl (dT (by omega)) ?_ | refine lT (tl_ixm rfl rfl rfl hx) ?_ | refine tr_mcallX hP hG (cS) rfl rfl rfl rfl rfl rfl rfl rfl rfl rfl rfl rfl ?_ | refine tr_mcallX hP hG (cT) rfl rfl rfl rfl rfl rfl rfl rfl rfl rfl rfl rfl ?_ | fail)
    exact again (m' := b.length) (Nat.lt_succ_self _) (w_canon 60 [] [9, 10, 12, 13, 46, 47, 48] hp rfl rfl rfl rfl) ⟨a ++ [x], b, by rw [e]; simp, rfl, by rw [hw1, hOs], by rw [hOs, hss]; rfl⟩
   | true =>
    obtain ⟨k, rfl, hks⟩ := scW_in hd
    have hy : s.thr[k]? = some s.thr[k] := List.getElem?_eq_getElem hks
    have hy' : (scW p s k).1.thr[k]? = some ((scW p s k).1.thr[k]'(by omega)) := List.getElem?_eq_getElem (by omega)
    generalize s.thr[k] = y at hy
    generalize (scW p s k).1.thr[k]'_ = y' at hy'
    have hu := upS_do (pts := pts) hd hy hy'
    have cX := next_spec p ho hc k y (g1.thr _ (List.mem_of_getElem? hy)).r
    have cP : Pure prog Tabs 29 [tI k, tI y'.pc, .fp [ptR pts] 0] (tB (ptB pts k y'.pc)) := point_spec (G := Tabs) pts (by omega) hp1 k y'.pc
    rw [hd] at cT
    rw [hu] at hOs
    clear hu
    generalize (scW p s k).1 = s' at *
    generalize ptB pts k y'.pc = bb at *
    generalize nextW p k y = d at *
    obtain ⟨dk, da, dv⟩ := d
    simp only at hOs
    have h4 : y'.st ≠ 0 ∨ (y'.st = 0 ∧ y'.ph ≠ 0) ∨ (y'.st = 0 ∧ y'.ph = 0 ∧ bb = false) ∨ (y'.st = 0 ∧ y'.ph = 0 ∧ bb = true) := by
     cases bb <;> by_cases h1 : y'.st = 0 <;> by_cases h2 : y'.ph = 0 <;> simp [h1, h2]
    by_cases h3 : dk = 3
    all_goals
     first | rw [if_pos h3] at hOs | rw [if_neg h3] at hOs
     rcases h4 with h1 | ⟨h1, h2⟩ | ⟨h1, h2, rfl⟩ | ⟨h1, h2, rfl⟩
     all_goals
      first | simp only [h1, h2, true_and, and_true, false_and, and_false, if_true, if_false, Bool.false_eq_true, and_self] at hOs | simp only [h1, false_and, if_false] at hOs
      repeat' (first | refine goR rfl ?_ | refine goS rfl ?_ | refine tret1 rfl ?_ | refine tretN rfl ?_ | refine gY rfl rfl ?_ | refine gN rfl rfl ?_ | refine qT rfl rfl ?_ | refine qF rfl rfl ?_ | refine qT rfl (dT (by omega)) ?_ | refine qT rfl (dT h3) ?_ | refine qF rfl (dF h3) ?_ | refine lT (tl_ixm rfl rfl rfl hx) ?_ | refine lT (tl_ixm rfl rfl rfl hy) ?_ | refine lT (tl_ixm rfl rfl rfl hy') ?_ | (refine tr_mcallX hP hG (cS) rfl rfl rfl rfl rfl rfl rfl rfl rfl rfl rfl rfl ?_; refine tr_frzA 53 0 rfl rfl rfl (lM ..).symm ?_; refine tr_frzA 53 1 rfl rfl rfl (lM ..).symm ?_) | (refine tr_mcallX hP hG (cS2) rfl rfl rfl rfl rfl rfl rfl rfl rfl rfl rfl rfl ?_; refine tr_frzA 79 0 rfl rfl rfl (lM ..).symm ?_; refine tr_frzA 79 1 rfl rfl rfl (lM ..).symm ?_) | refine tr_mcallX hP hG (cT) rfl rfl rfl rfl rfl rfl rfl rfl rfl rfl rfl rfl ?_ | refine cA rfl (by rw [hP, hG]; exact cX) rfl ?_ | refine tg_t rfl (dT h1) ?_ | refine tg_f rfl (dF h1) ?_ | refine tg_t rfl (dT h2) ?_ | refine tg_f rfl (dF h2) ?_ | refine tr_callC (r := tB true) rfl rfl (by rw [hP, hG]; exact cP) rfl ?_ | refine tr_callC (r := tB false) rfl rfl (by rw [hP, hG]; exact cP) rfl ?_ | refine tr_append rfl rfl (by simp only [lA, lM, List.length_cons, List.length_nil]) (.inr (.inr ⟨_, _, _, _, rfl, rfl, rfl⟩)) (by simp only [List.length_cons, List.length_nil]; omega) rfl ?_ | fail)
      refine again (m' := b.length) (Nat.lt_succ_self _) (w_canon 60 [] [9, 10, 12, 13, 46, 47, 48] hp rfl rfl rfl rfl) ⟨a ++ [(k : Int)], b, by rw [e]; simp, rfl, ?_, ?_⟩
      ·rw [hw1, hOs, @lA _ O]; rfl
      ·rw [hOs, hss, @List.map_append _ _ _ O]; first | rfl | (simp only [List.append_assoc]; rfl)
set_option maxHeartbeats 20000000 in
theorem up_no (p : Prg) (ho : okP p) (pts : List (List Int)) (hp0 : pts.length ≤ 1000000) (h : checkC p ≠ 0 ∨ pts.length > p.threads.length) (l : List Int) : Pure prog Tabs 12 [.agg (cPrg p), ptR pts, rwI l] (.v (.slice none 0 0)) := by
 have cI := weaveIn_no p ho pts hp0 h
 refine Pure.at mixedOk F12 rfl fun C hP hG hp => goF ?_; simp only [F12, targEnv, Nat.zero_add, Nat.reduceAdd]
 repeat' (first | refine goR rfl ?_ | refine goS rfl ?_ | refine tret1 rfl ?_ | refine tretN rfl ?_ | refine gY rfl rfl ?_ | refine gN rfl rfl ?_ | refine qT rfl rfl ?_ | refine qF rfl rfl ?_ | refine cA rfl (by rw [hP, hG]; exact cI) rfl ?_ | fail)
 exact .fr rfl
set_option maxHeartbeats 20000000 in
theorem up_bad (p : Prg) (ho : okP p) (hc : checkC p = 0) (hb : ∀ t ∈ p.threads, t.length ≤ 100000) (pts : List (List Int)) (hp0 : pts.length ≤ p.threads.length) (hp1 : ∀ l ∈ pts, l.length ≤ 1000000) (hi : inL pts p.threads = false) (l : List Int) :
  Pure prog Tabs 12 [.agg (cPrg p), ptR pts, rwI l] (.v (.slice none 0 0)) := by
 have cI := weaveIn_spec p ho hc hb pts hp0 hp1
 rw [if_neg (by rw [hi]; exact Bool.false_ne_true)] at cI
 refine Pure.at mixedOk F12 rfl fun C hP hG hp => goF ?_; simp only [F12, targEnv, Nat.zero_add, Nat.reduceAdd]
 repeat' (first | refine goR rfl ?_ | refine goS rfl ?_ | refine tret1 rfl ?_ | refine tretN rfl ?_ | refine gY rfl rfl ?_ | refine gN rfl rfl ?_ | refine qT rfl rfl ?_ | refine qF rfl rfl ?_ | refine cA rfl (by rw [hP, hG]; exact cI) rfl ?_ | fail)
 exact .fr rfl
end
end Go.Proofs.YtnphhelbianjpaaGreatDoor
namespace Go.Proofs.YtnphhelbianjpaaGreatDoor
set_option maxRecDepth 20000
open Go Go.Proofs.YtnphhelbianjpaaGreatDoor.V Go.Proofs
theorem nil_at {P : Program} {G : World → Prop} {f : FuncId} {r : TV} (a b : List TV) (sz : Nat) (h : Pure P G f (a ++ .lst sz [] :: b) r) : Pure P G f (a ++ .v (.slice none 0 0) :: b) r := by
 intro w0 st Φ vargs h1 h2 h3 h4
 refine h w0 st Φ vargs h1 h2 h3 ⟨by have := h4.len; simpa using this, fun i x y hx hy => ?_⟩
 by_cases hi : i = a.length
 ·subst hi
  rw [List.getElem?_append_right (Nat.le_refl _), Nat.sub_self] at hx
  cases hx
  have h5 := h4.rel a.length (.v (.slice none 0 0)) y (by rw [List.getElem?_append_right (Nat.le_refl _), Nat.sub_self]; rfl) hy
  cases h5
  exact .lst sz [] none 0 0 [] rfl (by decide) (fun a0 h => by cases h) (fun _ => Nat.le_refl _) (fun a0 h => by cases h) (fun x h => by cases h) (fun h => absurd rfl h) (fun j y z h => by simp at h)
 ·refine h4.rel i x y ?_ hy
  rw [← hx]
  by_cases hl : i < a.length
  ·rw [List.getElem?_append_left hl, List.getElem?_append_left hl]
  ·rw [List.getElem?_append_right (by omega), List.getElem?_append_right (by omega)]
   obtain ⟨n, hn⟩ : ∃ n, i - a.length = n + 1 := ⟨i - a.length - 1, by omega⟩
   rw [hn]; rfl
def pL : Prg := ⟨[⟨bs [120], 1, []⟩], [[mkI 1 false 0 ⟨3, 0, 0, 0⟩ ⟨2, 0, 0, 1⟩ (bs []), hltI]]⟩
theorem pL_ok : checkC pL = 0 := by kernel_rfl
theorem pL_okP : okP pL := by
 refine okP_small (by decide) ?_ (by decide) ?_
 ·intro s hs; simp only [pL, List.mem_singleton] at hs; subst hs; decide
 ·intro t ht
  simp only [pL, List.mem_singleton] at ht
  subst ht
  refine ⟨by decide, by decide, ?_⟩
  intro i hi
  simp only [List.mem_cons, List.not_mem_nil, or_false] at hi
  rcases hi with rfl | rfl <;> exact ⟨by decide, by decide, fun l hl => by cases hl⟩
theorem pL_nums : numsOk pL := by
 intro l hl i hi
 simp only [pL, List.mem_singleton] at hl
 subst hl
 simp only [List.mem_cons, List.not_mem_nil, or_false] at hi
 rcases hi with rfl | rfl <;> (unfold inR; decide)
theorem pL_mem : ∀ v ∈ startF pL.syms, inR v := fun v hv => by
 have : v ∈ [(0 : Int)] := hv
 rw [List.mem_singleton.1 this]; unfold inR; decide
theorem pL_b : ∀ t ∈ pL.threads, t.length ≤ 100000 := fun t ht => by
 simp only [pL, List.mem_singleton] at ht
 subst ht; decide
theorem pL_1 : liftL pL [] [0, 0] = [(0, false), (0, true), (0, false)] := by kernel_rfl
theorem pL_2 : liftL pL [[0]] [] = [(0, false)] := by kernel_rfl
section
attribute [local irreducible] TwS TwR thenT inBlockT retT nextW localW loadedW swapW scW liftL
set_option maxHeartbeats 20000000 in
theorem aliveL_spec : Pure prog Tabs 7 [] (tB true) := by
 have hq := start_q (p := pL) pL_mem
 have c1 := up_spec pL pL_okP pL_ok pL_nums hq pL_b [] (by decide) (fun l h => by cases h) (by kernel_rfl) [0, 0] (by decide)
 have c2 := up_spec pL pL_okP pL_ok pL_nums hq pL_b [[0]] (by decide) (fun l h => by rw [List.mem_singleton.1 h]; decide) (by kernel_rfl) [] (by decide)
 have c3 := up_bad pL pL_okP pL_ok pL_b [[2]] (by decide) (fun l h => by rw [List.mem_singleton.1 h]; decide) (by kernel_rfl) [0]
 rw [pL_1] at c1
 rw [pL_2] at c2
 have c1 := nil_at [.agg (cPrg pL)] [rwI [0, 0]] 1 c1
 have c2 := nil_at [.agg (cPrg pL), ptR [[0]]] [] 1 c2
 have c4 := samePicks_spec (G := Tabs) [(0, false), (0, true), (0, false)] (by decide)
 have c5 := samePicks_spec (G := Tabs) [(0, false)] (by decide)
 refine Pure.at mixedOk F7 rfl fun C hP hG hp => goF ?_; simp only [F7, targEnv, Nat.zero_add, Nat.reduceAdd]
 repeat' (first | refine goR rfl ?_ | refine goS rfl ?_ | refine tret1 rfl ?_ | refine tretN rfl ?_ | refine gY rfl rfl ?_ | refine gN rfl rfl ?_ | refine qT rfl rfl ?_ | refine qF rfl rfl ?_ | fail)
 refine tr_weak ((w_rowsA (k := 1) (ys := [cIns (mkI 1 false 0 ⟨3, 0, 0, 0⟩ ⟨2, 0, 0, 1⟩ (bs [])), cIns hltI]) rfl (by rfl) (by intro h; cases h) (by decide) ?_).trans (w_freeze (d := 9) (k := 1) rfl rfl (.aggL (.cons (.s 2 true rfl) .nil)))) ?_
 ·repeat' (first | exact .nil | refine .cons ?_ ?_ | exact .nil 1 | exact .refl _)
 refine goRn 1 rfl ?_
 refine tr_weak ((w_rowsA (k := 0) (ys := pL.syms.map cSym) rfl (by rfl) (by intro h; cases h) (by decide) ?_).trans ((w_freeze (d := 11) (k := 0) rfl rfl (.aggL (.cons (.s 1 true rfl) (.cons (.refl _) .nil)))).trans (w_freeze (d := 11) (k := 2) rfl rfl (.aggL (.cons (.refl _) (.cons (.s 1 true rfl) .nil)))))) ?_
 ·repeat' (first | exact .nil | refine .cons ?_ ?_ | exact .nil 1 | exact .refl _)
 repeat' (first | refine goR rfl ?_ | refine goS rfl ?_ | refine tret1 rfl ?_ | refine tretN rfl ?_ | refine gY rfl rfl ?_ | refine gN rfl rfl ?_ | refine qT rfl rfl ?_ | refine qF rfl rfl ?_ | refine cA rfl (by rw [hP, hG]; exact c1) rfl ?_ | refine tr_frzS 13 rfl rfl rfl ?_ | refine tr_frzS 18 rfl rfl rfl ?_ | refine cA rfl (by rw [hP, hG]; exact c4) rfl ?_ | refine tr_frzS 22 rfl rfl rfl ?_ | refine tr_frzS 23 rfl rfl rfl ?_ | refine cA rfl (by rw [hP, hG]; exact c2) rfl ?_ | refine tr_frzS 26 rfl rfl rfl ?_ | refine cA rfl (by rw [hP, hG]; exact c5) rfl ?_ | refine tr_frzS 31 rfl rfl rfl ?_ | refine tr_frzS 32 rfl rfl rfl ?_ | refine tr_frzS 33 rfl rfl rfl ?_ | refine cA rfl (by rw [hP, hG]; exact c3) rfl ?_ | fail)
 exact .fr rfl
end
end Go.Proofs.YtnphhelbianjpaaGreatDoor
namespace Go.Proofs.YtnphhelbianjpaaGreatDoor
set_option maxRecDepth 20000
open Go Go.Proofs.YtnphhelbianjpaaGreatDoor.V Go.Proofs
def greatL (pts : List (List Int)) : Bool := decide (pts.length > 10) || pts.any fun l => decide (l.length > 30)
theorem greatL_no {pts : List (List Int)} (h : greatL pts = false) : pts.length ≤ 10 ∧ ∀ l ∈ pts, l.length ≤ 30 := by
 unfold greatL at h
 rw [Bool.or_eq_false_iff] at h
 refine ⟨by have := of_decide_eq_false h.1; omega, fun l hl => ?_⟩
 have := List.any_eq_false.1 h.2 l hl
 simp at this
 omega
def mkBs (n : Nat) (l : List Int) : List Bool := l.foldl (fun bs x => bs.set (x % (n : Int)).toNat true) (List.replicate n false)
def ixsB : Nat → List Bool → List Int
 | _, [] => []
 | k, b :: r => (if b = true then [(k : Int)] else []) ++ ixsB (k + 1) r
def ptsF : List (List Int) → List (List Ins) → List (List Int)
 | l :: ls, t :: ts => ixsB 0 (mkBs t.length l) :: ptsF ls ts
 | _, _ => []
theorem mkBs_snoc (n : Nat) (a : List Int) (x : Int) : mkBs n (a ++ [x]) = (mkBs n a).set (x % (n : Int)).toNat true := by
 unfold mkBs; rw [List.foldl_append]; rfl
theorem mkBs_len (n : Nat) (l : List Int) : (mkBs n l).length = n := by
 have key : ∀ (l : List Int) (bs : List Bool), (l.foldl (fun bs x => bs.set (x % (n : Int)).toNat true) bs).length = bs.length := by
  intro l
  induction l with
  | nil => intro bs; rfl
  | cons x l ih => intro bs; rw [List.foldl_cons, ih, List.length_set]
 unfold mkBs
 rw [key, List.length_replicate]
theorem ixsB_snoc : ∀ (a : List Bool) (k : Nat) (b : Bool), ixsB k (a ++ [b]) = ixsB k a ++ (if b = true then [((k + a.length : Nat) : Int)] else [])
 | [], k, b => by
  show (if _ then _ else []) ++ [] = [] ++ _
  rw [List.append_nil, List.nil_append]; rfl
 | c :: a, k, b => by
  show (if _ then _ else []) ++ ixsB (k + 1) (a ++ [b]) = ((if _ then _ else []) ++ ixsB (k + 1) a) ++ _
  rw [ixsB_snoc a (k + 1) b, List.append_assoc, List.length_cons, show k + 1 + a.length = k + (a.length + 1) by omega]
theorem ixsB_len : ∀ (l : List Bool) (k : Nat), (ixsB k l).length ≤ l.length
 | [], _ => Nat.le_refl _
 | b :: l, k => by
  have := ixsB_len l (k + 1)
  show ((if _ then _ else []) ++ ixsB (k + 1) l).length ≤ _
  rw [lA, List.length_cons]
  split <;> simp only [List.length_cons, List.length_nil] <;> omega
theorem ixsB_mem : ∀ (l : List Bool) (k : Nat) (a : Int), a ∈ ixsB k l → (k : Int) ≤ a ∧ a < ((k + l.length : Nat) : Int)
 | [], _, _, h => by cases h
 | b :: l, k, a, h => by
  have h : a ∈ (if b = true then [(k : Int)] else []) ++ ixsB (k + 1) l := h
  rw [List.length_cons]
  rcases List.mem_append.1 h with h | h
  ·split at h
   ·rw [List.mem_singleton.1 h]; omega
   ·cases h
  ·have := ixsB_mem l (k + 1) a h; omega
theorem ixsB_ord : ∀ (l : List Bool) (k : Nat), k + l.length ≤ 2147483647 → ordF none (ixsB k l) = true ∧ ∀ q : Int, q < (k : Int) → ordF (some q) (ixsB k l) = true
 | [], _, _ => ⟨rfl, fun _ _ => rfl⟩
 | b :: l, k, h => by
  rw [List.length_cons] at h
  obtain ⟨h1, h2⟩ := ixsB_ord l (k + 1) (by omega)
  cases b with
  | false =>
   refine ⟨h1, fun q hq => h2 q (by omega)⟩
  | true =>
   have h3 := h2 (k : Int) (by omega)
   refine ⟨?_, fun q hq => ?_⟩
   ·show ordF none ((k : Int) :: ixsB (k + 1) l) = true
    rw [ordF, if_neg (by omega)]; exact h3
   ·show ordF (some q) ((k : Int) :: ixsB (k + 1) l) = true
    rw [ordF, if_neg (by omega)]; exact h3
theorem ixs_ok {n : Nat} (hn : n ≤ 100000) (l : List Int) : ordF none (ixsB 0 (mkBs n l)) = true ∧ lastOk (ixsB 0 (mkBs n l)) n = true := by
 have hl := mkBs_len n l
 refine ⟨(ixsB_ord _ 0 (by omega)).1, ?_⟩
 unfold lastOk
 cases h : (ixsB 0 (mkBs n l)).getLast? with
 | none => rfl
 | some q =>
  have := ixsB_mem _ 0 q (List.mem_of_getLast? h)
  exact dT (by omega)
theorem ptsF_ok : ∀ (ls : List (List Int)) (ts : List (List Ins)), (∀ t ∈ ts, t.length ≤ 100000) → inL (ptsF ls ts) ts = true ∧ (ptsF ls ts).length ≤ ts.length ∧ ∀ l ∈ ptsF ls ts, l.length ≤ 1000000
 | [], ts, _ => by
  have e : ptsF [] ts = [] := by cases ts <;> rfl
  rw [e]
  exact ⟨by cases ts <;> rfl, Nat.zero_le _, fun l h => by cases h⟩
 | l :: ls, [], _ => ⟨rfl, Nat.le_refl _, fun l h => by cases h⟩
 | l :: ls, t :: ts, h => by
  obtain ⟨g1, g2, g3⟩ := ptsF_ok ls ts (fun x hx => h x (List.mem_cons_of_mem _ hx))
  have ht := h t (List.mem_cons_self ..)
  obtain ⟨r1, r2⟩ := ixs_ok ht l
  refine ⟨?_, ?_, fun x hx => ?_⟩
  ·show ((ordF none (ixsB 0 (mkBs t.length l)) && lastOk (ixsB 0 (mkBs t.length l)) t.length) && inL (ptsF ls ts) ts) = true
   rw [r1, r2, g1]; rfl
  ·show (ptsF ls ts).length + 1 ≤ ts.length + 1
   omega
  ·rcases List.mem_cons.1 hx with rfl | hx
   ·have := ixsB_len (mkBs t.length l) 0
    rw [mkBs_len] at this
    omega
   ·exact g3 x hx
theorem ptsF_len : ∀ (ls : List (List Int)) (ts : List (List Ins)), (ptsF ls ts).length = min ls.length ts.length
 | [], ts => by
  have e : ptsF [] ts = [] := by cases ts <;> rfl
  rw [e, List.length_nil]; omega
 | l :: ls, [] => by show 0 = _; rw [List.length_nil]; omega
 | l :: ls, t :: ts => by
  show (ptsF ls ts).length + 1 = _
  rw [ptsF_len ls ts, List.length_cons, List.length_cons]; omega
theorem ptsF_get : ∀ {ls : List (List Int)} {ts : List (List Ins)} {k : Nat} {l : List Int} {t : List Ins}, ls[k]? = some l → ts[k]? = some t → (ptsF ls ts)[k]? = some (ixsB 0 (mkBs t.length l))
 | [], _, _, _, _, h, _ => by simp at h
 | _ :: _, [], _, _, _, _, h => by simp at h
 | l :: ls, t :: ts, 0, _, _, h, h' => by cases h; cases h'; rfl
 | _ :: ls, _ :: ts, k + 1, l, t, h, h' => ptsF_get (ls := ls) (ts := ts) (k := k) (by simpa using h) (by simpa using h')
section
attribute [local irreducible] TwS TwR thenT inBlockT retT
variable {G : World → Prop}
set_option maxHeartbeats 20000000 in
theorem greatLists_spec (pts : List (List Int)) : Pure prog G 6 [ptR pts] (tB (greatL pts)) := by
 have hml : (pts.map fun l => [rwI l]).length = pts.length := lM ..
 by_cases h10 : pts.length > 10
 ·rw [show greatL pts = true by unfold greatL; rw [dT h10]; rfl]
  refine Pure.at mixedOk F6 rfl fun C hP hG hp => goF ?_; simp only [F6, targEnv, Nat.zero_add, Nat.reduceAdd]
  repeat' (first | refine goR rfl ?_ | refine goS rfl ?_ | refine tret1 rfl ?_ | refine tretN rfl ?_ | refine gY rfl rfl ?_ | refine gN rfl rfl ?_ | refine qT rfl rfl ?_ | refine qF rfl rfl ?_ | refine qT rfl (dT (by omega)) ?_ | fail)
  exact .fr rfl
 ·have hg : greatL pts = pts.any fun l => decide (l.length > 30) := by unfold greatL; rw [dF h10]; rfl
  refine Pure.at mixedOk F6 rfl fun C hP hG hp => goF ?_; simp only [F6, targEnv, Nat.zero_add, Nat.reduceAdd]
  repeat' (first | refine goR rfl ?_ | refine goS rfl ?_ | refine tret1 rfl ?_ | refine tretN rfl ?_ | refine gY rfl rfl ?_ | refine gN rfl rfl ?_ | refine qT rfl rfl ?_ | refine qF rfl rfl ?_ | refine qF rfl (dF (by omega)) ?_ | fail)
  refine loopS (fun m env σ => ∃ a b, pts = a ++ b ∧ m = b.length ∧ greatL pts = (b.any fun l => decide (l.length > 30)) ∧ env = [(0, ptR pts), (3, tI a.length)] ∧ σ = ⟨[], 60⟩) pts.length (w_canon 60 [] [0, 3] hp rfl rfl rfl rfl) ⟨[], pts, rfl, rfl, hg, rfl, rfl⟩ ?_
  rintro m1 env σ ⟨a, b, e, rfl, hF, rfl, rfl⟩
  have hla : pts.length = a.length + b.length := by rw [e, lA]
  cases b with
  | nil =>
   rw [List.length_nil] at hla
   rw [hF]
   repeat' (first | refine goR rfl ?_ | refine goS rfl ?_ | refine tret1 rfl ?_ | refine tretN rfl ?_ | refine gY rfl rfl ?_ | refine gN rfl rfl ?_ | refine qT rfl rfl ?_ | refine qF rfl rfl ?_ | refine qF rfl (dF (by omega)) ?_ | fail)
   exact .fr rfl
  | cons x b =>
   have hx : pts[a.length]? = some x := by rw [e]; exact ix
   simp only [List.length_cons] at hla
   have hw1 : IntKind.i64.wrap ((a.length : Int) + 1) = ((a ++ [x]).length : Int) := by rw [w64 (by omega), lA]; rfl
   have hxm : (x.map fun n => [tI n]).length = x.length := lM ..
   rw [List.any_cons] at hF
   by_cases h0 : x.length > 30
   ·rw [dT h0, Bool.true_or] at hF
    rw [hF]
    repeat' (first | refine goR rfl ?_ | refine goS rfl ?_ | refine tret1 rfl ?_ | refine tretN rfl ?_ | refine gY rfl rfl ?_ | refine gN rfl rfl ?_ | refine qT rfl rfl ?_ | refine qF rfl rfl ?_ | refine qT rfl (dT (by omega)) ?_ | refine lT (tl_ixm rfl rfl rfl hx) ?_ | fail)
    exact .fr rfl
   ·rw [dF h0, Bool.false_or] at hF
    repeat' (first | refine goR rfl ?_ | refine goS rfl ?_ | refine tret1 rfl ?_ | refine tretN rfl ?_ | refine gY rfl rfl ?_ | refine gN rfl rfl ?_ | refine qT rfl rfl ?_ | refine qF rfl rfl ?_ | refine qT rfl (dT (by omega)) ?_ | refine qF rfl (dF (by omega)) ?_ | refine lT (tl_ixm rfl rfl rfl hx) ?_ | fail)
    exact again (m' := b.length) (Nat.lt_succ_self _) (w_canon 60 [] [0, 3] hp rfl rfl rfl rfl) ⟨a ++ [x], b, by rw [e]; simp, rfl, hF, by rw [hw1], rfl⟩
set_option maxHeartbeats 20000000 in
theorem points_spec (p : Prg) (hb : ∀ t ∈ p.threads, t.length ≤ 100000) (pts : List (List Int)) (h10 : pts.length ≤ 10) (h30 : ∀ l ∈ pts, l.length ≤ 30) (ht3 : p.threads.length ≤ 100000) : Pure prog G 8 [.agg (cPrg p), ptR pts, tB false] (ptR (ptsF pts p.threads)) := by
 have hml : (pts.map fun l => [rwI l]).length = pts.length := lM ..
 have hmt : (p.threads.map cTh).length = p.threads.length := lM ..
 have hpl := ptsF_len pts p.threads
 have hpg := fun {k l t} => @ptsF_get pts p.threads k l t
 generalize ptsF pts p.threads = R at *
 refine Pure.at mixedOk F8 rfl fun C hP hG hp => goF ?_; simp only [F8, targEnv, Nat.zero_add, Nat.reduceAdd]
 repeat' (first | refine goR rfl ?_ | refine goS rfl ?_ | refine tret1 rfl ?_ | refine tretN rfl ?_ | refine gY rfl rfl ?_ | refine gN rfl rfl ?_ | refine qT rfl rfl ?_ | refine qF rfl rfl ?_ | fail)
 refine loopS (fun m env σ => ∃ k : Nat, k ≤ pts.length ∧ k ≤ p.threads.length ∧ m = pts.length - k ∧ env = [(1, ptR pts), (3, .p 0 0), (7, .s 1 1 0 (R.take k).length true), (8, tI k)] ∧
  σ = ⟨[(0, .cells (cPrg p) 28), (1, .rows 1 ((R.take k).map fun l => [rwI l]) 24)], 60⟩) pts.length ((w_virt (d := 7) 1 24 rfl).trans (w_canon 60 [] [1, 3, 7, 8] hp rfl rfl rfl rfl)) ⟨0, Nat.zero_le _, Nat.zero_le _, rfl, rfl, rfl⟩ ?_
 rintro m1 env σ ⟨k, hk1, hk2, rfl, rfl, rfl⟩
 have hRk : (R.take k).length = k := by rw [List.length_take]; omega
 by_cases hlt : k < pts.length ∧ k < p.threads.length
 ·obtain ⟨hl1, hl2⟩ := hlt
  have hx : pts[k]? = some pts[k] := List.getElem?_eq_getElem hl1
  have hy : p.threads[k]? = some p.threads[k] := List.getElem?_eq_getElem hl2
  have hll := h30 _ (List.getElem_mem hl1)
  have hyb := hb _ (List.getElem_mem hl2)
  have hpk := hpg hx hy
  generalize pts[k] = l at *
  generalize p.threads[k] = ins at *
  have hil : (ins.map cIns).length = ins.length := lM ..
  have hlm : (l.map fun n => [tI n]).length = l.length := lM ..
  have hw1 : IntKind.i64.wrap ((k : Int) + 1) = ((k + 1 : Nat) : Int) := by rw [w64 (by omega)]; rfl
  have hRs : R.take (k + 1) = R.take k ++ [ixsB 0 (mkBs ins.length l)] := by rw [List.take_add_one, hpk]; rfl
  have hmk : (List.replicate ins.length [TV.v (.bool false)]) = (mkBs ins.length (l.take 0)).map fun b => [tB b] := by rw [List.take_zero]; show _ = (List.replicate ins.length false).map _; rw [List.map_replicate]
  repeat' (first | refine goR rfl ?_ | refine goS rfl ?_ | refine tret1 rfl ?_ | refine tretN rfl ?_ | refine gY rfl rfl ?_ | refine gN rfl rfl ?_ | refine qT rfl rfl ?_ | refine qF rfl rfl ?_ | refine qT rfl (dT (by omega)) ?_ | refine tg_t rfl (dT (by omega)) ?_ | refine lT (tl_ixm rfl rfl rfl hy) ?_ | refine tr_make rfl rfl rfl rfl (by omega) ?_ | fail)
  refine loopS (fun m env σ => ∃ i : Nat, i ≤ l.length ∧ m = l.length - i ∧ env = [(1, ptR pts), (3, .p 0 0), (7, .s 1 1 0 (R.take k).length true), (8, tI k), (9, .s 2 1 0 ins.length true), (10, tI i)] ∧
   σ = ⟨[(0, .cells (cPrg p) 28), (1, .rows 1 ((R.take k).map fun l => [rwI l]) 24), (2, .rows 1 ((mkBs ins.length (l.take i)).map fun b => [tB b]) 4)], 60⟩) l.length (w_canon 60 [] [1, 3, 7, 8, 9, 10] hp rfl rfl rfl rfl) ⟨0, Nat.zero_le _, rfl, by rw [hil, Int.toNat_natCast]; rfl, by rw [← hmk, hil, Int.toNat_natCast]; rfl⟩ ?_
  rintro m2 env σ ⟨i, hi, rfl, rfl, rfl⟩
  by_cases hin : i < l.length ∧ 0 < ins.length
  ·obtain ⟨hi1, hi2⟩ := hin
   have hz : l[i]? = some l[i] := List.getElem?_eq_getElem hi1
   have htk : l.take (i + 1) = l.take i ++ [l[i]] := by rw [List.take_add_one, hz]; rfl
   generalize l[i] = x at *
   have hsn := mkBs_snoc ins.length (l.take i) x
   rw [← htk] at hsn
   have hw2 : IntKind.i64.wrap ((i : Int) + 1) = ((i + 1 : Nat) : Int) := by rw [w64 (by omega)]; rfl
   obtain ⟨n', hn'⟩ : ∃ n', ins.length = n' + 1 := ⟨ins.length - 1, by omega⟩
   have cK := pick_spec (G := G) x n' (by omega)
   rw [← hn'] at cK
   have hr1 := Int.emod_nonneg x (show (ins.length : Int) ≠ 0 by omega)
   have hr2 := Int.emod_lt_of_pos x (show (0 : Int) < ins.length by omega)
   generalize x % (ins.length : Int) = e at *
   obtain ⟨e, rfl⟩ : ∃ n : Nat, e = n := ⟨e.toNat, by omega⟩
   rw [Int.toNat_natCast] at hsn
   have hel : e < ins.length := by omega
   have hbl := mkBs_len ins.length (l.take i)
   have hbg : ((mkBs ins.length (l.take i)).map fun b => [tB b])[e]? = some [tB ((mkBs ins.length (l.take i))[e]'(by omega))] := by rw [List.getElem?_map, List.getElem?_eq_getElem (by omega)]; rfl
   have hbs : ((mkBs ins.length (l.take i)).map fun b => [tB b]).set e [tB true] = (mkBs ins.length (l.take (i + 1))).map fun b => [tB b] := by rw [hsn, List.map_set]
   repeat' (first | refine goR rfl ?_ | refine goS rfl ?_ | refine tret1 rfl ?_ | refine tretN rfl ?_ | refine gY rfl rfl ?_ | refine gN rfl rfl ?_ | refine qT rfl rfl ?_ | refine qF rfl rfl ?_ | refine qT rfl (dT (by omega)) ?_ | refine tg_t rfl (dT (by omega)) ?_ | refine lT (tl_ixm rfl rfl rfl hx) ?_ | refine lT (tl_ixm rfl rfl rfl hz) ?_ | refine cA rfl (by rw [hP, hG]; exact cK) rfl ?_ | refine lT (tl_ixo (m := e) rfl rfl rfl hel) ?_ | refine tr_storeE rfl rfl hbg rfl rfl rfl rfl rfl rfl ?_ | fail)
   exact again (m' := l.length - (i + 1)) (by omega) (w_canon 60 [] [1, 3, 7, 8, 9, 10] hp rfl rfl rfl rfl) ⟨i + 1, by omega, rfl, by rw [hw2], by rw [← hbs]; rfl⟩
  ·have hfin : mkBs ins.length (l.take i) = mkBs ins.length l := by
    by_cases h : i < l.length
    ·have h0 : ins.length = 0 := by omega
     have e1 := mkBs_len ins.length (l.take i)
     have e2 := mkBs_len ins.length l
     rw [h0] at e1 e2
     rw [h0, List.eq_nil_of_length_eq_zero e1, List.eq_nil_of_length_eq_zero e2]
    ·rw [List.take_of_length_le (by omega)]
   rw [hfin]
   have hbl := mkBs_len ins.length l
   generalize mkBs ins.length l = B at *
   have hBm : (B.map fun b => [tB b]).length = ins.length := by rw [lM, hbl]
   by_cases h : i < l.length
   all_goals
    repeat' (first | refine goR rfl ?_ | refine goS rfl ?_ | refine tret1 rfl ?_ | refine tretN rfl ?_ | refine gY rfl rfl ?_ | refine gN rfl rfl ?_ | refine qT rfl rfl ?_ | refine qF rfl rfl ?_ | refine qF rfl (dF (by omega)) ?_ | refine tg_t rfl (dT (by omega)) ?_ | refine tg_f rfl (dF (by omega)) ?_ | refine lT (tl_ixm rfl rfl rfl hx) ?_ | fail)
    refine loopS (fun m env σ => ∃ c d, B = c ++ d ∧ m = d.length ∧ env = [(1, ptR pts), (3, .p 0 0), (7, .s 1 1 0 (R.take k).length true), (8, tI k), (9, .s 2 1 0 ins.length true), (11, .s 3 1 0 (ixsB 0 c).length true), (12, tI c.length)] ∧
     σ = ⟨[(0, .cells (cPrg p) 28), (1, .rows 1 ((R.take k).map fun l => [rwI l]) 24), (2, .rows 1 (B.map fun b => [tB b]) 4), (3, .rows 1 ((ixsB 0 c).map fun n => [tI n]) 3)], 60⟩) B.length ((w_virt (d := 11) 1 3 rfl).trans (w_canon 60 [] [1, 3, 7, 8, 9, 11, 12] hp rfl rfl rfl rfl)) ⟨[], B, rfl, rfl, rfl, rfl⟩ ?_
    rintro m3 env σ ⟨c, d, e3, rfl, rfl, rfl⟩
    have hlc : B.length = c.length + d.length := by rw [e3, lA]
    have hrl := ixsB_len c 0
    cases d with
    | nil =>
     rw [List.length_nil] at hlc
     rw [List.append_nil] at e3
     subst e3
     refine ts_weak (w_frzS 11 rfl rfl (by rw [lM])) ?_
     repeat' (first | refine goR rfl ?_ | refine goS rfl ?_ | refine tret1 rfl ?_ | refine tretN rfl ?_ | refine gY rfl rfl ?_ | refine gN rfl rfl ?_ | refine qT rfl rfl ?_ | refine qF rfl rfl ?_ | refine qF rfl (dF (by omega)) ?_ | refine tr_append rfl rfl (by simp only [lM]) (.inr (.inr ⟨_, _, _, _, rfl, rfl, rfl⟩)) (by simp only [List.length_cons, List.length_nil]; omega) rfl ?_ | fail)
     exact again (m' := pts.length - (k + 1)) (by omega) (w_canon 60 [] [1, 3, 7, 8] hp rfl rfl rfl rfl) ⟨k + 1, by omega, by omega, rfl, by rw [hw1, hRs, lA]; rfl, by rw [hRs, List.map_append]; rfl⟩
    | cons b d =>
     have hbx : (B.map fun b => [tB b])[c.length]? = some [tB b] := by rw [List.getElem?_map, e3]; rw [show (c ++ b :: d)[c.length]? = some b from ix]; rfl
     simp only [List.length_cons] at hlc
     have hcl : c.length < ins.length := by omega
     have hw3 : IntKind.i64.wrap ((c.length : Int) + 1) = ((c ++ [b]).length : Int) := by rw [w64 (by omega), lA]; rfl
     have hsn := ixsB_snoc c 0 b
     rw [Nat.zero_add] at hsn
     cases b with
     | true =>
      rw [if_pos rfl] at hsn
      repeat' (first | refine goR rfl ?_ | refine goS rfl ?_ | refine tret1 rfl ?_ | refine tretN rfl ?_ | refine gY rfl rfl ?_ | refine gN rfl rfl ?_ | refine qT rfl rfl ?_ | refine qF rfl rfl ?_ | refine qT rfl (dT (by omega)) ?_ | refine lT (tl_ixo (m := c.length) rfl rfl rfl hcl) ?_ | refine lT (tl_ldE rfl rfl hbx rfl) ?_ | refine tr_append rfl rfl (by simp only [lM]) (.inr (.inr ⟨_, _, _, _, rfl, rfl, rfl⟩)) (by simp only [List.length_cons, List.length_nil]; omega) rfl ?_ | fail)
      exact again (m' := d.length) (Nat.lt_succ_self _) (w_canon 60 [] [1, 3, 7, 8, 9, 11, 12] hp rfl rfl rfl rfl) ⟨c ++ [true], d, by rw [e3]; simp, rfl, by rw [hw3, hsn, @lA _ (ixsB 0 c)]; rfl, by rw [hsn, List.map_append]; rfl⟩
     | false =>
      rw [if_neg Bool.false_ne_true, List.append_nil] at hsn
      repeat' (first | refine goR rfl ?_ | refine goS rfl ?_ | refine tret1 rfl ?_ | refine tretN rfl ?_ | refine gY rfl rfl ?_ | refine gN rfl rfl ?_ | refine qT rfl rfl ?_ | refine qF rfl rfl ?_ | refine qT rfl (dT (by omega)) ?_ | refine lT (tl_ixo (m := c.length) rfl rfl rfl hcl) ?_ | refine lT (tl_ldE rfl rfl hbx rfl) ?_ | fail)
      exact again (m' := d.length) (Nat.lt_succ_self _) (w_canon 60 [] [1, 3, 7, 8, 9, 11, 12] hp rfl rfl rfl rfl) ⟨c ++ [false], d, by rw [e3]; simp, rfl, by rw [hw3, hsn], by rw [hsn]; rfl⟩
 ·have hfin : R.take k = R := List.take_of_length_le (by omega)
  rw [hfin]
  by_cases h : k < pts.length
  all_goals
   repeat' (first | refine goR rfl ?_ | refine goS rfl ?_ | refine tret1 rfl ?_ | refine tretN rfl ?_ | refine gY rfl rfl ?_ | refine gN rfl rfl ?_ | refine qT rfl rfl ?_ | refine qF rfl rfl ?_ | refine qF rfl (dF (by omega)) ?_ | refine tg_t rfl (dT (by omega)) ?_ | refine tg_f rfl (dF (by omega)) ?_ | fail)
   show Fz _ _ (.lst 1 (R.map fun l => [rwI l]))
   (repeat' first | exact FzL.nil | refine FzL.cons ?_ ?_ | exact Fz.fr rfl | exact Fz.nil _ | exact Fz.s _ _ _ _ _ _ rfl (lM ..).symm | exact Fz.s _ _ _ _ _ _ rfl rfl | refine Fz.pL rfl ?_ | refine Fz.aggL ?_); first | done | fail
end
end Go.Proofs.YtnphhelbianjpaaGreatDoor
