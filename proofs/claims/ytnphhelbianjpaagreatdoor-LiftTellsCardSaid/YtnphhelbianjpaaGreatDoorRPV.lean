/-
  Walks of functions of the program, and what the laws need of them.
-/
import Derived.Test.YtnphhelbianjpaaGreatDoorRPC
import Derived.Test.YtnphhelbianjpaaGreatDoorRPN
import Derived.Test.YtnphhelbianjpaaGreatDoorRPH
import Derived.Test.YtnphhelbianjpaaGreatDoorRPR
import Derived.Test.YtnphhelbianjpaaGreatDoorRPO
import Derived.Test.YtnphhelbianjpaaGreatDoorRPL
set_option linter.all false
set_option linter.unusedSimpArgs false
set_option linter.unusedVariables false
set_option linter.unnecessarySimpa false
namespace Go.Proofs.YtnphhelbianjpaaGreatDoor
set_option maxRecDepth 20000
open Go Go.Proofs.YtnphhelbianjpaaGreatDoor.V Go.Proofs
section
attribute [local irreducible] TwS TwR thenT inBlockT retT
variable {G : World → Prop}
end
end Go.Proofs.YtnphhelbianjpaaGreatDoor
namespace Go.Proofs.YtnphhelbianjpaaGreatDoor
set_option maxRecDepth 20000
open Go Go.Proofs.YtnphhelbianjpaaGreatDoor.V Go.Proofs
theorem thO_len (many : Nat) (r : List Act) : (thO many r).length ≤ many + 1 := by
 unfold thO
 rw [labS_len]
 unfold baseO
 rw [lA]
 unfold rawO
 rw [lM, List.length_take]
 show _ + 1 ≤ _
 omega
theorem book_s6 (l : List (List Act)) (hl : ∀ r ∈ l, ∀ a ∈ r, inR a.n) : ∃ p, okP p ∧ checkC p = 0 ∧ numsOk p ∧ (∀ G, Pure prog G 5 [cActs l, tI 3, tI 6] (.agg (cPrg p))) ∧ p.threads.length ≤ 3 ∧ stQ p (start0 p) ∧ ∀ t ∈ p.threads, t.length ≤ 7 := by
 obtain ⟨h1, h2⟩ := prog_ok l 3 6 (by decide) (by decide)
 refine ⟨_, h2, h1, prog_nums hl 3 6, fun G => progO_spec l 3 6 (by decide) (by decide), ?_, start_q ?_, ?_⟩
 ·show ((l.take 3).map (thO 6)).length ≤ 3
  rw [lM, List.length_take]; omega
 ·intro v hv
  have hv : v ∈ [(0 : Int), 1, 0, 0] := hv
  have : v = 0 ∨ v = 1 ∨ v = 0 := by simpa using hv
  rcases this with rfl | rfl | rfl <;> (unfold inR; decide)
 ·intro t ht
  have ht : t ∈ (l.take 3).map (thO 6) := ht
  obtain ⟨r, _, rfl⟩ := List.mem_map.1 ht
  exact thO_len 6 r
section
attribute [local irreducible] TwS TwR thenT inBlockT retT nextW localW loadedW swapW scW liftL
end
end Go.Proofs.YtnphhelbianjpaaGreatDoor
namespace Go.Proofs.YtnphhelbianjpaaGreatDoor
set_option maxRecDepth 20000
open Go Go.Proofs.YtnphhelbianjpaaGreatDoor.V Go.Proofs
section
attribute [local irreducible] TwS TwR thenT inBlockT retT nextW localW loadedW swapW scW
set_option maxHeartbeats 20000000 in
theorem up3_spec (p : Prg) (ho : okP p) (hc : checkC p = 0) (hn : numsOk p) (hq : stQ p (start0 p)) (hb : ∀ t ∈ p.threads, t.length ≤ 100000) (pts : List (List Int)) (hp0 : pts.length ≤ p.threads.length) (hp1 : ∀ l ∈ pts, l.length ≤ 1000000) (hi : inL pts p.threads = true) (l : List Int) (hl : l.length ≤ 1000) :
  Pure prog Tabs 13 [.agg (cPrg p), ptR pts, rwI l] (.lst 2 ((liftL p pts l).map cPick)) := by
 have cI := weave3_spec p ho hc hb pts hp0 hp1
 rw [if_pos hi] at cI
 obtain ⟨k1, hk2, k3, _⟩ := check_syms hc
 have hmt : (p.threads.map cTh).length = p.threads.length := lM ..
 have hml : (l.map fun n => [tI n]).length = l.length := lM ..
 have cB := begin_own (G := Tabs) p k1 hk2 k3
 have hg : ∀ k, (pts.getD k []).length ≤ 1000000 := fun k => by
  rw [List.getD_eq_getElem?_getD]
  cases h : pts[k]? with
  | none => exact Nat.zero_le _
  | some l => exact hp1 l (List.mem_of_getElem? h)
 have cO := fun t => of3_spec (G := Tabs) pts (by omega) t
 have cI3 : ∀ (k : Nat) (v : Int), Pure prog Tabs 17 [rwI (pts.getD k []), tI v] (tB (ptB pts k v)) := fun k v => in3_spec (G := Tabs) _ (hg k) v
 refine Pure.at mixedOk F13 rfl fun C hP hG hp => goF ?_; simp only [F13, targEnv, Nat.zero_add, Nat.reduceAdd]
 repeat' (first | refine goR rfl ?_ | refine goS rfl ?_ | refine tret1 rfl ?_ | refine tretN rfl ?_ | refine gY rfl rfl ?_ | refine gN rfl rfl ?_ | refine qT rfl rfl ?_ | refine qF rfl rfl ?_ | refine cA rfl (by rw [hP, hG]; exact cI) rfl ?_ | refine tr_mcallX hP hG (cB) rfl rfl rfl rfl rfl rfl rfl rfl rfl rfl rfl rfl ?_ | fail)
 refine loopS (fun m env σ => ∃ k : Nat, k ≤ p.threads.length ∧ m = p.threads.length - k ∧ env = [(1, ptR pts), (2, rwI l), (3, .p 0 0), (9, .p 1 0), (10, .s 4 2 0 (upB pts 0 k).length true), (11, tI k)] ∧
  σ = ⟨(0, .cells (cPrg p) 28) :: (rfM (start0 p) (.lst 1 []) 1 ++ [(4, .rows 2 ((upB pts 0 k).map cPick) 51)]), 60⟩) p.threads.length ((w_virt (d := 10) 2 51 rfl).trans ((w_canon 60 [] [1, 2, 3, 9, 10, 11] hp rfl rfl rfl rfl).trans ((w_freezeC (j := 1) (i := 2) (k := 4) rfl rfl rfl (by decide) (.s _ _ rfl)).trans (w_canon 60 [] [1, 2, 3, 9, 10, 11] hp rfl rfl rfl rfl)))) ⟨0, Nat.zero_le _, rfl, by unfold upB; rfl, by unfold upB; rfl⟩ ?_
 rintro m1 env σ ⟨k, hk, rfl, rfl, rfl⟩
 by_cases hkl : k < p.threads.length
 ·have cP := cI3 k 0
  have hub := upB_len pts k 0
  have hsn := upB_snoc pts k 0
  rw [Nat.zero_add] at hsn
  have hw1 : IntKind.i64.wrap ((k : Int) + 1) = ((k + 1 : Nat) : Int) := by rw [w64 (by omega)]; rfl
  cases hpt : ptB pts k 0 with
  | true =>
   rw [hpt] at cP
   rw [hpt, if_pos rfl] at hsn
   repeat' (first | refine goR rfl ?_ | refine goS rfl ?_ | refine tret1 rfl ?_ | refine tretN rfl ?_ | refine gY rfl rfl ?_ | refine gN rfl rfl ?_ | refine qT rfl rfl ?_ | refine qF rfl rfl ?_ | refine qT rfl (dT (by omega)) ?_ | refine cA rfl (by rw [hP, hG]; exact cO k) rfl ?_ | refine cA rfl (by rw [hP, hG]; exact cP) rfl ?_ | refine tr_append rfl rfl (by rw [lM]) (.inr (.inr ⟨_, _, _, _, rfl, rfl, rfl⟩)) (by simp only [List.length_cons, List.length_nil]; omega) rfl ?_ | fail)
   exact again (m' := p.threads.length - (k + 1)) (by omega) (w_canon 60 [] [1, 2, 3, 9, 10, 11] hp rfl rfl rfl rfl) ⟨k + 1, by omega, rfl, by rw [hw1, hsn, lA]; rfl, by rw [hsn, List.map_append]; rfl⟩
  | false =>
   rw [hpt] at cP
   rw [hpt, if_neg Bool.false_ne_true, List.append_nil] at hsn
   repeat' (first | refine goR rfl ?_ | refine goS rfl ?_ | refine tret1 rfl ?_ | refine tretN rfl ?_ | refine gY rfl rfl ?_ | refine gN rfl rfl ?_ | refine qT rfl rfl ?_ | refine qF rfl rfl ?_ | refine qT rfl (dT (by omega)) ?_ | refine cA rfl (by rw [hP, hG]; exact cO k) rfl ?_ | refine cA rfl (by rw [hP, hG]; exact cP) rfl ?_ | fail)
   exact again (m' := p.threads.length - (k + 1)) (by omega) (w_canon 60 [] [1, 2, 3, 9, 10, 11] hp rfl rfl rfl rfl) ⟨k + 1, by omega, rfl, by rw [hw1, hsn], by rw [hsn]; rfl⟩
 ·have hkn : k = p.threads.length := by omega
  subst hkn
  have hub := upB_len pts p.threads.length 0
  obtain ⟨U, hU⟩ : ∃ U, U = upB pts 0 p.threads.length := ⟨_, rfl⟩
  rw [← hU] at hub
  have hLL : liftL p pts l = U ++ upL p pts (start0 p) l := by rw [hU]; rfl
  rw [← hU, hLL]
  clear hU hLL
  have hu0 : upL p pts (start0 p) [] = [] := by unfold upL; rfl
  repeat' (first | refine goR rfl ?_ | refine goS rfl ?_ | refine tret1 rfl ?_ | refine tretN rfl ?_ | refine gY rfl rfl ?_ | refine gN rfl rfl ?_ | refine qT rfl rfl ?_ | refine qF rfl rfl ?_ | refine qF rfl (dF (by omega)) ?_ | fail)
  refine loopS (fun m env σ => ∃ a b, l = a ++ b ∧ m = b.length ∧ env = [(1, ptR pts), (2, rwI l), (3, .p 0 0), (9, .p 1 0), (10, .s 4 2 0 (U ++ upL p pts (start0 p) a).length true), (12, tI a.length)] ∧
   σ = ⟨(0, .cells (cPrg p) 28) :: (rfM (scL p (start0 p) a) (.lst 1 []) 1 ++ [(4, .rows 2 ((U ++ upL p pts (start0 p) a).map cPick) 51)]), 60⟩) l.length (w_canon 60 [] [1, 2, 3, 9, 10, 12] hp rfl rfl rfl rfl) ⟨[], l, rfl, rfl, by rw [hu0, List.append_nil]; rfl, by rw [hu0, List.append_nil]; rfl⟩ ?_
  rintro m2 env σ ⟨a, b, e, rfl, rfl, rfl⟩
  have hla : l.length = a.length + b.length := by rw [e, lA]
  cases b with
  | nil =>
   rw [List.length_nil] at hla
   rw [List.append_nil] at e
   subst e
   repeat' (first | refine goR rfl ?_ | refine goS rfl ?_ | refine tret1 rfl ?_ | refine tretN rfl ?_ | refine gY rfl rfl ?_ | refine gN rfl rfl ?_ | refine qT rfl rfl ?_ | refine qF rfl rfl ?_ | refine qF rfl (dF (by omega)) ?_ | fail)
   show Fz _ _ (.lst 2 ((U ++ upL p pts (start0 p) l).map cPick))
   (repeat' first | exact FzL.nil | refine FzL.cons ?_ ?_ | exact Fz.fr rfl | exact Fz.nil _ | exact Fz.s _ _ _ _ _ _ rfl (lM ..).symm | exact Fz.s _ _ _ _ _ _ rfl rfl | refine Fz.pL rfl ?_ | refine Fz.aggL ?_); first | done | fail
  | cons x b =>
   have hx : l[a.length]? = some x := by rw [e]; exact ix
   simp only [List.length_cons] at hla
   have hw1 : IntKind.i64.wrap ((a.length : Int) + 1) = ((a ++ [x]).length : Int) := by rw [w64 (by omega), lA]; rfl
   have hul := upL_len p pts a (start0 p)
   have hus := upL_snoc p pts (start0 p) a x
   have hss := scL_snoc p (start0 p) a x
   obtain ⟨g1, g2, g3⟩ := scL_ok hn a hq
   have g2 : (scL p (start0 p) a).thr.length = p.threads.length := g2.trans (List.length_replicate ..)
   have hsb : (scL p (start0 p) a).bufs = [] := g3
   obtain ⟨f1, f2, f3, _⟩ := scW_ok hn g1 x
   have cC := copyF_own (G := Tabs) (scL p (start0 p) a) (stQ_okS hc g1 g2 g3)
   have c2 := sc_own p ho hc (scL p (start0 p) a) g1 (by omega) x
   generalize scL p (start0 p) a = s at *
   have hcs : cState s = [.lst 1 (s.mem.map fun n => [tI n]), .lst 16 (s.thr.map cThr), .lst 1 [], tI s.lock] := by unfold cState; rw [hsb]; rfl
   rw [hcs, hsb] at cC
   clear hcs
   have hOl : (U ++ upL p pts (start0 p) a).length ≤ 64 + 3 * a.length := by rw [lA]; omega
   obtain ⟨O, hO⟩ : ∃ O, O = U ++ upL p pts (start0 p) a := ⟨_, rfl⟩
   have hOs : U ++ upL p pts (start0 p) (a ++ [x]) = O ++ upS p pts s x := by rw [hus, hO, List.append_assoc]
   rw [← hO] at hOl
   rw [← hO]
   clear hO hus hul
   cases hd : (scW p s x).2 with
   | false =>
    rw [upS_no hd, List.append_nil] at hOs
    rw [hd] at c2
    repeat' (first | refine goR rfl ?_ | refine goS rfl ?_ | refine tret1 rfl ?_ | refine tretN rfl ?_ | refine gY rfl rfl ?_ | refine gN rfl rfl ?_ | refine qT rfl rfl ?_ | refine qF rfl rfl ?_ | refine qT rfl (dT (by omega)) ?_ | refine lT (tl_ixm rfl rfl rfl hx) ?_ | (refine tr_mcallV hP hG (cC) rfl (by (repeat' first | exact FzL.nil | refine FzL.cons ?_ ?_ | exact Fz.fr rfl | exact Fz.nil _ | exact Fz.s _ _ _ _ _ _ rfl (lM ..).symm | exact Fz.s _ _ _ _ _ _ rfl rfl | refine Fz.pL rfl ?_ | refine Fz.aggL ?_); first | done | fail) rfl rfl rfl rfl rfl rfl (by (repeat' first | rfl | exact selfS_nil | refine selfS_cons ?_ ?_ | exact self_rows (fun _ => rfl) _ _ _); first | done | fail) rfl ?_; refine tr_frzA 53 0 rfl rfl rfl (lM ..).symm ?_; refine tr_frzA 53 1 rfl rfl rfl (lM ..).symm ?_) | refine tr_mcallX hP hG (c2) rfl rfl rfl rfl rfl rfl rfl rfl rfl rfl rfl rfl ?_ | fail)
    exact again (m' := b.length) (Nat.lt_succ_self _) (w_canon 60 [] [1, 2, 3, 9, 10, 12] hp rfl rfl rfl rfl) ⟨a ++ [x], b, by rw [e]; simp, rfl, by rw [hw1, hOs], by rw [hOs, hss]; rfl⟩
   | true =>
    obtain ⟨k, rfl, hks⟩ := scW_in hd
    have hkl : k < s.thr.length := hks
    have hkl2 : k < (scW p s (k : Int)).1.thr.length := by omega
    have hy : s.thr[k]? = some s.thr[k] := List.getElem?_eq_getElem hks
    have hy' : (scW p s k).1.thr[k]? = some ((scW p s k).1.thr[k]'(by omega)) := List.getElem?_eq_getElem (by omega)
    generalize s.thr[k] = y at hy
    generalize (scW p s k).1.thr[k]'_ = y' at hy'
    have hu := upS_do (pts := pts) hd hy hy'
    have cX := next_spec2 p ho hc k y
    have cP := cI3 k y'.pc
    rw [hd] at c2
    rw [hu] at hOs
    clear hu
    generalize (scW p s k).1 = s' at *
    have hym : (s'.thr.map cThr)[k]? = some (cThr y') := by rw [List.getElem?_map, hy']; rfl
    generalize ptB pts k y'.pc = bb at *
    generalize nextW p k y = d at *
    obtain ⟨dk, da, dv⟩ := d
    simp only at hOs
    have h4 : y'.st ≠ 0 ∨ (y'.st = 0 ∧ y'.ph ≠ 0) ∨ (y'.st = 0 ∧ y'.ph = 0 ∧ bb = false) ∨ (y'.st = 0 ∧ y'.ph = 0 ∧ bb = true) := by
     cases bb <;> by_cases h1 : y'.st = 0 <;> by_cases h2 : y'.ph = 0 <;> simp [h1, h2]
    by_cases h3 : dk = 3
    all_goals
     first | rw [if_pos h3] at hOs | rw [if_neg h3] at hOs
     rcases h4 with h1 | ⟨h1, h2⟩ | ⟨h1, h2, rfl⟩ | ⟨h1, h2, rfl⟩
     all_goals
      first | simp only [h1, h2, true_and, and_true, false_and, and_false, if_true, if_false, Bool.false_eq_true, and_self] at hOs | simp only [h1, false_and, if_false] at hOs
      repeat' (first | refine goR rfl ?_ | refine goS rfl ?_ | refine tret1 rfl ?_ | refine tretN rfl ?_ | refine gY rfl rfl ?_ | refine gN rfl rfl ?_ | refine qT rfl rfl ?_ | refine qF rfl rfl ?_ | refine qT rfl (dT (by omega)) ?_ | refine qT rfl (dT h3) ?_ | refine qF rfl (dF h3) ?_ | refine lT (tl_ixm rfl rfl rfl hx) ?_ | refine lT (tl_ixm rfl rfl rfl hy) ?_ | refine lT (tl_ixo (m := k) rfl rfl rfl hkl2) ?_ | refine lT (tl_ldE rfl rfl hym rfl) ?_ | (refine tr_mcallV hP hG (cC) rfl (by (repeat' first | exact FzL.nil | refine FzL.cons ?_ ?_ | exact Fz.fr rfl | exact Fz.nil _ | exact Fz.s _ _ _ _ _ _ rfl (lM ..).symm | exact Fz.s _ _ _ _ _ _ rfl rfl | refine Fz.pL rfl ?_ | refine Fz.aggL ?_); first | done | fail) rfl rfl rfl rfl rfl rfl (by (repeat' first | rfl | exact selfS_nil | refine selfS_cons ?_ ?_ | exact self_rows (fun _ => rfl) _ _ _); first | done | fail) rfl ?_; refine tr_frzA 53 0 rfl rfl rfl (lM ..).symm ?_; refine tr_frzA 53 1 rfl rfl rfl (lM ..).symm ?_) | refine tr_mcallX hP hG (c2) rfl rfl rfl rfl rfl rfl rfl rfl rfl rfl rfl rfl ?_ | refine cA rfl (by rw [hP, hG]; exact cX) rfl ?_ | refine cA rfl (by rw [hP, hG]; exact cO k) rfl ?_ | refine cA rfl (by rw [hP, hG]; exact cP) rfl ?_ | refine tg_t rfl (dT h1) ?_ | refine tg_f rfl (dF h1) ?_ | refine tg_t rfl (dT h2) ?_ | refine tg_f rfl (dF h2) ?_ | refine tr_append rfl rfl (by simp only [lA, lM, List.length_cons, List.length_nil]) (.inr (.inr ⟨_, _, _, _, rfl, rfl, rfl⟩)) (by simp only [List.length_cons, List.length_nil]; omega) rfl ?_ | fail)
      refine again (m' := b.length) (Nat.lt_succ_self _) (w_canon 60 [] [1, 2, 3, 9, 10, 12] hp rfl rfl rfl rfl) ⟨a ++ [(k : Int)], b, by rw [e]; simp, rfl, ?_, ?_⟩
      ·rw [hw1, hOs, @lA _ O]; rfl
      ·rw [hOs, hss, @List.map_append _ _ _ O]; first | rfl | (simp only [List.append_assoc]; rfl)
set_option maxHeartbeats 20000000 in
theorem up3_no (p : Prg) (ho : okP p) (pts : List (List Int)) (hp0 : pts.length ≤ 1000000) (h : checkC p ≠ 0 ∨ pts.length > p.threads.length) (l : List Int) : Pure prog Tabs 13 [.agg (cPrg p), ptR pts, rwI l] (.v (.slice none 0 0)) := by
 have cI := weave3_no p ho pts hp0 h
 refine Pure.at mixedOk F13 rfl fun C hP hG hp => goF ?_; simp only [F13, targEnv, Nat.zero_add, Nat.reduceAdd]
 repeat' (first | refine goR rfl ?_ | refine goS rfl ?_ | refine tret1 rfl ?_ | refine tretN rfl ?_ | refine gY rfl rfl ?_ | refine gN rfl rfl ?_ | refine qT rfl rfl ?_ | refine qF rfl rfl ?_ | refine cA rfl (by rw [hP, hG]; exact cI) rfl ?_ | fail)
 exact .fr rfl
set_option maxHeartbeats 20000000 in
theorem up3_bad (p : Prg) (ho : okP p) (hc : checkC p = 0) (hb : ∀ t ∈ p.threads, t.length ≤ 100000) (pts : List (List Int)) (hp0 : pts.length ≤ p.threads.length) (hp1 : ∀ l ∈ pts, l.length ≤ 1000000) (hi : inL pts p.threads = false) (l : List Int) :
  Pure prog Tabs 13 [.agg (cPrg p), ptR pts, rwI l] (.v (.slice none 0 0)) := by
 have cI := weave3_spec p ho hc hb pts hp0 hp1
 rw [if_neg (by rw [hi]; exact Bool.false_ne_true)] at cI
 refine Pure.at mixedOk F13 rfl fun C hP hG hp => goF ?_; simp only [F13, targEnv, Nat.zero_add, Nat.reduceAdd]
 repeat' (first | refine goR rfl ?_ | refine goS rfl ?_ | refine tret1 rfl ?_ | refine tretN rfl ?_ | refine gY rfl rfl ?_ | refine gN rfl rfl ?_ | refine qT rfl rfl ?_ | refine qF rfl rfl ?_ | refine cA rfl (by rw [hP, hG]; exact cI) rfl ?_ | fail)
 exact .fr rfl
end
end Go.Proofs.YtnphhelbianjpaaGreatDoor
namespace Go.Proofs.YtnphhelbianjpaaGreatDoor
set_option maxRecDepth 20000
open Go Go.Proofs.YtnphhelbianjpaaGreatDoor.V Go.Proofs
section
attribute [local irreducible] TwS TwR thenT inBlockT retT nextW localW loadedW swapW scW liftL
variable {G : World → Prop}
set_option maxHeartbeats 20000000 in
theorem pointsR_spec (p : Prg) (pts : List (List Int)) : Pure prog G 8 [.agg (cPrg p), ptR pts, tB true] (ptR pts) := by
 refine Pure.at mixedOk F8 rfl fun C hP hG hp => goF ?_; simp only [F8, targEnv, Nat.zero_add, Nat.reduceAdd]
 repeat' (first | refine goR rfl ?_ | refine goS rfl ?_ | refine tret1 rfl ?_ | refine tretN rfl ?_ | refine gY rfl rfl ?_ | refine gN rfl rfl ?_ | refine qT rfl rfl ?_ | refine qF rfl rfl ?_ | fail)
 exact .fr rfl
theorem up_any (p : Prg) (ho : okP p) (hc : checkC p = 0) (hn : numsOk p) (hq : stQ p (start0 p)) (h3 : p.threads.length ≤ 64) (hb : ∀ t ∈ p.threads, t.length ≤ 100000) (pts : List (List Int)) (hp0 : pts.length ≤ 1000000) (hp1 : ∀ l ∈ pts, l.length ≤ 1000000) (l : List Int) (hl : l.length ≤ 1000) :
  (∃ A : List (Int × Bool), A.length ≤ 1000000 ∧ Pure prog Tabs 12 [.agg (cPrg p), ptR pts, rwI l] (.lst 2 (A.map cPick)) ∧ Pure prog Tabs 13 [.agg (cPrg p), ptR pts, rwI l] (.lst 2 (A.map cPick))) ∨
  (Pure prog Tabs 12 [.agg (cPrg p), ptR pts, rwI l] (.v (.slice none 0 0)) ∧ Pure prog Tabs 13 [.agg (cPrg p), ptR pts, rwI l] (.v (.slice none 0 0))) := by
 by_cases h : pts.length ≤ p.threads.length
 ·cases hi : inL pts p.threads with
  | true =>
   refine .inl ⟨liftL p pts l, ?_, up_spec p ho hc hn hq hb pts h hp1 hi l hl, up3_spec p ho hc hn hq hb pts h hp1 hi l hl⟩
   have := lift_len p pts l
   omega
  | false => exact .inr ⟨up_bad p ho hc hb pts h hp1 hi l, up3_bad p ho hc hb pts h hp1 hi l⟩
 ·exact .inr ⟨up_no p ho pts hp0 (.inr (by omega)) l, up3_no p ho pts hp0 (.inr (by omega)) l⟩
set_option maxHeartbeats 20000000 in
theorem liftTells (l : List (List Act)) (hl : ∀ r ∈ l, ∀ a ∈ r, inR a.n) (pts : List (List Int)) (raw own : Bool) (steps : List Int) : Pure prog Tabs 3 [cActs l, ptR pts, tB raw, tB own, rwI steps] (tB true) := by
 obtain ⟨p, ho, hc, hn, c1, h3, hq, h7⟩ := book_s6 l hl
 have cAl := aliveL_spec
 have c2 := greatLists_spec (G := Tabs) pts
 cases hg : greatL pts with
 | true =>
  rw [hg] at c2
  refine Pure.at mixedOk F3 rfl fun C hP hG hp => goF ?_; simp only [F3, targEnv, Nat.zero_add, Nat.reduceAdd]
  repeat' (first | refine goR rfl ?_ | refine goS rfl ?_ | refine tret1 rfl ?_ | refine tretN rfl ?_ | refine gY rfl rfl ?_ | refine gN rfl rfl ?_ | refine qT rfl rfl ?_ | refine qF rfl rfl ?_ | refine cA rfl (by rw [hP]; exact c1 _) rfl ?_ | refine cA rfl (by rw [hP, hG]; exact c2) rfl ?_ | refine cA rfl (by rw [hP, hG]; exact cAl) rfl ?_ | fail)
  exact .fr rfl
 | false =>
  rw [hg] at c2
  obtain ⟨h10, h30⟩ := greatL_no hg
  have hb : ∀ t ∈ p.threads, t.length ≤ 100000 := fun t ht => by have := h7 t ht; omega
  have hL : ∃ R : List (List Int), Pure prog Tabs 8 [.agg (cPrg p), ptR pts, tB raw] (ptR R) ∧ R.length ≤ 1000000 ∧ ∀ l ∈ R, l.length ≤ 1000000 := by
   cases raw with
   | true => exact ⟨pts, pointsR_spec p pts, by omega, fun l hl => by have := h30 l hl; omega⟩
   | false =>
    obtain ⟨p1, p2, p3⟩ := ptsF_ok pts p.threads hb
    exact ⟨_, points_spec (G := Tabs) p hb pts h10 h30 (by omega), by omega, p3⟩
  obtain ⟨R, c3, hR0, hR1⟩ := hL
  have cA1 := all_x p ⟨ho, hc, by omega, h7⟩
  have hth : (p.threads.map cTh).length = p.threads.length := lM ..
  have c4 := steps_own (G := Tabs) steps (p.threads.map cTh).length 50 (by omega) (by decide)
  have hsl : (stepsF steps (p.threads.map cTh).length 50).length ≤ 50 := by rw [stepsF, lM, List.length_take]; omega
  generalize stepsF steps (p.threads.map cTh).length 50 = row at *
  have hsm : (row.map fun n => [tI n]).length = row.length := lM ..
  have cU := fun R hR0 hR1 => up_any p ho hc hn hq (by omega) hb R hR0 hR1 row (by omega)
  have cS0 := nil_at [] [.v (.slice none 0 0)] 2 (nil_at [.lst 2 (([] : List (Int × Bool)).map cPick)] [] 2 (samePicks_spec (G := Tabs) [] (by decide)))
  cases own with
  | false =>
   rcases cU R hR0 hR1 with ⟨A, hA, u1, u2⟩ | ⟨u1, u2⟩
   ·have cS := samePicks_spec (G := Tabs) A hA
    refine Pure.at mixedOk F3 rfl fun C hP hG hp => goF ?_; simp only [F3, targEnv, Nat.zero_add, Nat.reduceAdd]
    repeat' (first | refine goR rfl ?_ | refine goS rfl ?_ | refine tret1 rfl ?_ | refine tretN rfl ?_ | refine gY rfl rfl ?_ | refine gN rfl rfl ?_ | refine qT rfl rfl ?_ | refine qF rfl rfl ?_ | refine cA rfl (by rw [hP]; exact c1 _) rfl ?_ | refine cA rfl (by rw [hP, hG]; exact c2) rfl ?_ | refine cA rfl (by rw [hP, hG]; exact c3) rfl ?_ | (refine tr_mcallX hP hG (c4) rfl rfl rfl rfl rfl rfl rfl rfl rfl rfl rfl rfl ?_; refine tr_frzS 29 rfl rfl hsm.symm ?_) | refine cA rfl (by rw [hP, hG]; exact u1) rfl ?_ | refine cA rfl (by rw [hP, hG]; exact u2) rfl ?_ | refine cA rfl (by rw [hP, hG]; exact cS) rfl ?_ | refine cA rfl (by rw [hP, hG]; exact cAl) rfl ?_ | fail)
    exact .fr rfl
   ·refine Pure.at mixedOk F3 rfl fun C hP hG hp => goF ?_; simp only [F3, targEnv, Nat.zero_add, Nat.reduceAdd]
    repeat' (first | refine goR rfl ?_ | refine goS rfl ?_ | refine tret1 rfl ?_ | refine tretN rfl ?_ | refine gY rfl rfl ?_ | refine gN rfl rfl ?_ | refine qT rfl rfl ?_ | refine qF rfl rfl ?_ | refine cA rfl (by rw [hP]; exact c1 _) rfl ?_ | refine cA rfl (by rw [hP, hG]; exact c2) rfl ?_ | refine cA rfl (by rw [hP, hG]; exact c3) rfl ?_ | (refine tr_mcallX hP hG (c4) rfl rfl rfl rfl rfl rfl rfl rfl rfl rfl rfl rfl ?_; refine tr_frzS 29 rfl rfl hsm.symm ?_) | refine cA rfl (by rw [hP, hG]; exact u1) rfl ?_ | refine cA rfl (by rw [hP, hG]; exact u2) rfl ?_ | refine cA rfl (by rw [hP, hG]; exact cS0) rfl ?_ | refine cA rfl (by rw [hP, hG]; exact cAl) rfl ?_ | fail)
    exact .fr rfl
  | true =>
   refine Pure.at mixedOk F3 rfl fun C hP hG hp => goF ?_; simp only [F3, targEnv, Nat.zero_add, Nat.reduceAdd]
   repeat' (first | refine goR rfl ?_ | refine goS rfl ?_ | refine tret1 rfl ?_ | refine tretN rfl ?_ | refine gY rfl rfl ?_ | refine gN rfl rfl ?_ | refine qT rfl rfl ?_ | refine qF rfl rfl ?_ | refine cA rfl (by rw [hP]; exact c1 _) rfl ?_ | refine cA rfl (by rw [hP, hG]; exact c2) rfl ?_ | refine cA rfl (by rw [hP, hG]; exact c3) rfl ?_ | (refine tr_callX rfl (by rw [hP, hG]; exact cA1) rfl ?_; rintro _ ⟨R2, rfl, hA0, hA1⟩) | (refine tr_mcallX hP hG (c4) rfl rfl rfl rfl rfl rfl rfl rfl rfl rfl rfl rfl ?_; refine tr_frzS 29 rfl rfl hsm.symm ?_) | fail)
   rcases cU R2 (by omega) hA1 with ⟨A, hA, u1, u2⟩ | ⟨u1, u2⟩
   ·have cS := samePicks_spec (G := Tabs) A hA
    repeat' (first | refine goR rfl ?_ | refine goS rfl ?_ | refine tret1 rfl ?_ | refine tretN rfl ?_ | refine gY rfl rfl ?_ | refine gN rfl rfl ?_ | refine qT rfl rfl ?_ | refine qF rfl rfl ?_ | refine cA rfl (by rw [hP, hG]; exact u1) rfl ?_ | refine cA rfl (by rw [hP, hG]; exact u2) rfl ?_ | refine cA rfl (by rw [hP, hG]; exact cS) rfl ?_ | refine cA rfl (by rw [hP, hG]; exact cAl) rfl ?_ | fail)
    exact .fr rfl
   ·repeat' (first | refine goR rfl ?_ | refine goS rfl ?_ | refine tret1 rfl ?_ | refine tretN rfl ?_ | refine gY rfl rfl ?_ | refine gN rfl rfl ?_ | refine qT rfl rfl ?_ | refine qF rfl rfl ?_ | refine cA rfl (by rw [hP, hG]; exact u1) rfl ?_ | refine cA rfl (by rw [hP, hG]; exact u2) rfl ?_ | refine cA rfl (by rw [hP, hG]; exact cS0) rfl ?_ | refine cA rfl (by rw [hP, hG]; exact cAl) rfl ?_ | fail)
    exact .fr rfl
end
end Go.Proofs.YtnphhelbianjpaaGreatDoor
