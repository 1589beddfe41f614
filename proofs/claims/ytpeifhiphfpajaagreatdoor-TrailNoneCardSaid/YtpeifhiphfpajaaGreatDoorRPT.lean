/-
  Walks of functions of the program, and what the laws need of them.
-/
import Derived.Test.YtpeifhiphfpajaaGreatDoorRPL
import Derived.Test.YtpeifhiphfpajaaGreatDoorRPS
import Derived.Test.YtpeifhiphfpajaaGreatDoorRPK
import Derived.Test.YtpeifhiphfpajaaGreatDoorRPR
set_option linter.all false
set_option linter.unusedSimpArgs false
set_option linter.unusedVariables false
set_option linter.unnecessarySimpa false
namespace Go.Proofs.YtpeifhiphfpajaaGreatDoor
set_option maxRecDepth 20000
open Go Go.Proofs.YtpeifhiphfpajaaGreatDoor.V Go.Proofs
def cEn (e : Int × Int) : List TV := [tI e.1, tI e.2]
def cWt (w : List (Int × Int)) : List TV := [.lst 2 (w.map cEn)]
def waitF : Nat → List (List (Int × Int)) → Pk
 | _, [] => (0, false)
 | k, w :: W => if w.length = 0 then waitF (k + 1) W else ((k : Int), true)
section
attribute [local irreducible] TwS TwR thenT inBlockT retT
set_option maxHeartbeats 20000000 in
theorem waits_spec {G : World → Prop} (W : List (List (Int × Int))) (hl : W.length ≤ 100000) : Pure prog G 24 [.lst 1 (W.map cWt)] (.agg (cPick (waitF 0 W))) := by
 have hm : (W.map cWt).length = W.length := lM ..
 refine Pure.at mixedOk F24 rfl fun C hP hG hp => goF ?_; simp only [F24, targEnv, Nat.zero_add, Nat.reduceAdd]
 repeat' (first | refine goR rfl ?_ | refine goS rfl ?_ | refine tret1 rfl ?_ | refine tretN rfl ?_ | refine gY rfl rfl ?_ | refine gN rfl rfl ?_ | refine qT rfl rfl ?_ | refine qF rfl rfl ?_ | fail)
 refine loopS (fun m env σ => ∃ a b, W = a ++ b ∧ m = b.length ∧ waitF 0 W = waitF a.length b ∧ env = [(0, .lst 1 (W.map cWt)), (2, .p 0 0), (3, tI a.length)] ∧ σ = ⟨[(0, .cells (cPick (0, false)) 47)], 60⟩) W.length (w_canon 60 [] [0, 2, 3] hp rfl rfl rfl rfl) ⟨[], W, rfl, rfl, rfl, rfl, rfl⟩ ?_
 rintro m1 env σ ⟨a, b, e, rfl, hF, rfl, rfl⟩
 have hla : W.length = a.length + b.length := by rw [e, lA]
 cases b with
 | nil =>
  rw [List.length_nil] at hla
  rw [hF]
  repeat' (first | refine goR rfl ?_ | refine goS rfl ?_ | refine tret1 rfl ?_ | refine tretN rfl ?_ | refine gY rfl rfl ?_ | refine gN rfl rfl ?_ | refine qT rfl rfl ?_ | refine qF rfl rfl ?_ | refine qF rfl (dF (by omega)) ?_ | fail)
  exact .fr rfl
 | cons w b =>
  have hx : W[a.length]? = some w := by rw [e]; exact ix
  simp only [List.length_cons] at hla
  have hw1 : IntKind.i64.wrap ((a.length : Int) + 1) = ((a ++ [w]).length : Int) := by rw [w64 (by omega), lA]; rfl
  have hwl : (w.map cEn).length = w.length := lM ..
  by_cases h0 : w.length = 0
  ·have hF2 : waitF 0 W = waitF (a ++ [w]).length b := by
    rw [hF, waitF, if_pos h0, lA]; rfl
   repeat' (first | refine goR rfl ?_ | refine goS rfl ?_ | refine tret1 rfl ?_ | refine tretN rfl ?_ | refine gY rfl rfl ?_ | refine gN rfl rfl ?_ | refine qT rfl rfl ?_ | refine qF rfl rfl ?_ | refine qT rfl (dT (by omega)) ?_ | refine qF rfl (dF (by omega)) ?_ | refine lT (tl_ixm rfl rfl rfl hx) ?_ | fail)
   exact again (m' := b.length) (Nat.lt_succ_self _) (w_canon 60 [] [0, 2, 3] hp rfl rfl rfl rfl) ⟨a ++ [w], b, by rw [e]; simp, rfl, hF2, by rw [hw1], rfl⟩
  ·have hF2 : waitF 0 W = ((a.length : Int), true) := by
    rw [hF, waitF, if_neg h0]
   rw [hF2]
   repeat' (first | refine goR rfl ?_ | refine goS rfl ?_ | refine tret1 rfl ?_ | refine tretN rfl ?_ | refine gY rfl rfl ?_ | refine gN rfl rfl ?_ | refine qT rfl rfl ?_ | refine qF rfl rfl ?_ | refine qT rfl (dT (by omega)) ?_ | refine lT (tl_ixm rfl rfl rfl hx) ?_ | fail)
   exact .fr rfl
end
end Go.Proofs.YtpeifhiphfpajaaGreatDoor
namespace Go.Proofs.YtpeifhiphfpajaaGreatDoor
set_option maxRecDepth 20000
open Go Go.Proofs.YtpeifhiphfpajaaGreatDoor.V Go.Proofs
def wroteF (n : Nat) (wm : List (Int × Int)) : List Int := (List.range n).map fun a : Nat => (lkI (a : Int) wm).getD (-1)
theorem wroteF_len (n : Nat) (wm : List (Int × Int)) : (wroteF n wm).length = n := by
 unfold wroteF; rw [lM, List.length_range]
theorem wroteF_get {n a : Nat} (h : a < n) (wm : List (Int × Int)) : (wroteF n wm)[a]? = some ((lkI (a : Int) wm).getD (-1)) := by
 unfold wroteF; rw [List.getElem?_map, List.getElem?_range h]; rfl
theorem wroteF_nil (n : Nat) : wroteF n [] = List.replicate n (-1) := by
 apply List.ext_getElem?
 intro i
 by_cases h : i < n
 ·rw [wroteF_get h, List.getElem?_replicate, if_pos h]; rfl
 ·rw [List.getElem?_eq_none (by rw [wroteF_len]; omega), List.getElem?_eq_none (by rw [List.length_replicate]; omega)]
theorem wroteF_set {n a : Nat} (h : a < n) (k : Int) (wm : List (Int × Int)) : (wroteF n wm).set a k = wroteF n (putI (a : Int) k wm) := by
 apply List.ext_getElem?
 intro i
 by_cases hi : i < n
 ·rw [wroteF_get hi, lkI_put]
  by_cases e : a = i
  ·subst e
   rw [List.getElem?_set_self (by rw [wroteF_len]; exact h), if_pos rfl]; rfl
  ·rw [List.getElem?_set_ne e, wroteF_get hi, if_neg (by omega)]
 ·rw [List.getElem?_eq_none (by rw [List.length_set, wroteF_len]; omega), List.getElem?_eq_none (by rw [wroteF_len]; omega)]
theorem waitF_ok : ∀ (W : List (List (Int × Int))) (k : Nat), ((∀ j, W.getD j [] = []) ∧ waitF k W = (0, false)) ∨
  ∃ j, W.getD j [] ≠ [] ∧ (∀ i, i < j → W.getD i [] = []) ∧ j < W.length ∧ waitF k W = (((k + j : Nat) : Int), true)
 | [], k => .inl ⟨fun j => rfl, rfl⟩
 | w :: W, k => by
  rw [waitF]
  by_cases h : w.length = 0
  ·have hw : w = [] := List.eq_nil_of_length_eq_zero h
   rw [if_pos h]
   rcases waitF_ok W (k + 1) with ⟨h1, h2⟩ | ⟨j, h1, h2, h3, h4⟩
   ·refine .inl ⟨fun j => ?_, h2⟩
    cases j with
    | zero => exact hw
    | succ j => exact h1 j
   ·refine .inr ⟨j + 1, h1, fun i hi => ?_, by rw [List.length_cons]; omega, ?_⟩
    ·cases i with
     | zero => exact hw
     | succ i => exact h2 i (by omega)
    ·rw [h4]
     have : k + 1 + j = k + (j + 1) := by omega
     rw [this]
  ·rw [if_neg h]
   exact .inr ⟨0, fun e => h (by have e : w = [] := e; rw [e]; rfl), (fun i hi => absurd hi (Nat.not_lt_zero _)), by rw [List.length_cons]; omega, rfl⟩
section
variable {p : Prg} {r : Tr}
theorem drRA_pre {k : Nat} (h : ∀ j, j < k → r.W.getD j [] = []) : ∀ n, n ≤ k → drRA p r n = r
 | 0, _ => rfl
 | n + 1, hn => by
  show drR p (drRA p r n) n = r
  rw [drRA_pre h n (by omega)]
  unfold drR
  rw [h n (by omega)]
  rfl
theorem drRA_none (h : ∀ j, r.W.getD j [] = []) (n : Nat) : drRA p r n = r := drRA_pre (k := n) (fun j _ => h j) n (Nat.le_refl _)
theorem drRA_step (hc : checkC p = 0) (hq : tQ p r) (hp : tP p r) {k : Nat} (hk : k < r.s.thr.length) (h : ∀ j, j < k → r.W.getD j [] = []) (h1 : r.W.getD k [] ≠ []) : ∀ n, k < n → drRA p r n = drRA p (trS p r ((k : Int), true)) n := by
 obtain ⟨_, g, _⟩ := flushR hc k 1 hq hp hk
 have g : ∀ j, (trS p r ((k : Int), true)).W.getD j [] = if j = k then (r.W.getD k []).drop 1 else r.W.getD j [] := g
 have base : drRA p r (k + 1) = drRA p (trS p r ((k : Int), true)) (k + 1) := by
  show drR p (drRA p r k) k = drR p (drRA p (trS p r ((k : Int), true)) k) k
  rw [drRA_pre h k (Nat.le_refl _), drRA_pre (fun j hj => by rw [g j, if_neg (by omega)]; exact h j hj) k (Nat.le_refl _)]
  unfold drR
  rw [g k, if_pos rfl]
  cases e : r.W.getD k [] with
  | nil => exact absurd e h1
  | cons w l => rfl
 have more : ∀ m, drRA p r (k + 1 + m) = drRA p (trS p r ((k : Int), true)) (k + 1 + m) := by
  intro m
  induction m with
  | zero => exact base
  | succ m ih =>
   show drR p (drRA p r (k + 1 + m)) _ = drR p (drRA p _ (k + 1 + m)) _
   rw [ih]
 intro n hn
 have := more (n - (k + 1))
 have e : k + 1 + (n - (k + 1)) = n := by omega
 rw [e] at this
 exact this
end
end Go.Proofs.YtpeifhiphfpajaaGreatDoor
namespace Go.Proofs.YtpeifhiphfpajaaGreatDoor
set_option maxRecDepth 20000
open Go Go.Proofs.YtpeifhiphfpajaaGreatDoor.V Go.Proofs
def totW : List (List (Int × Int)) → Nat
 | [] => 0
 | w :: W => w.length + totW W
theorem totW_set : ∀ {W : List (List (Int × Int))} {t : Nat} (w : List (Int × Int)), t < W.length → totW (W.set t w) + (W.getD t []).length = totW W + w.length
 | [], t, w, h => absurd h (Nat.not_lt_zero _)
 | v :: W, 0, w, _ => by
  show w.length + totW W + v.length = v.length + totW W + w.length
  omega
 | v :: W, t + 1, w, h => by
  have := totW_set (W := W) (t := t) w (Nat.lt_of_succ_lt_succ h)
  show v.length + totW (W.set t w) + (W.getD t []).length = v.length + totW W + w.length
  omega
theorem totW_get : ∀ {W : List (List (Int × Int))} {t : Nat}, (W.getD t []).length ≤ totW W
 | [], _ => Nat.le_refl _
 | v :: W, 0 => Nat.le_add_right ..
 | v :: W, t + 1 => Nat.le_trans (totW_get (W := W) (t := t)) (Nat.le_add_left ..)
theorem lastA_snoc2 (l : List (Int × Int)) (e : Int × Int) (a d : Int) : (lastA (l ++ [e]) a).getD d = if e.1 = a then e.2 else (lastA l a).getD d := by
 unfold lastA
 rw [List.reverse_append, List.reverse_singleton, List.singleton_append, List.find?_cons]
 by_cases h : e.1 = a
 ·rw [if_pos h, dT h]; rfl
 ·rw [if_neg h, dF h]
def wI (n i : Nat) : List Int := List.replicate i (-1) ++ List.replicate (n - i) 0
theorem wI_len {n i : Nat} (h : i ≤ n) : (wI n i).length = n := by
 unfold wI; rw [lA, List.length_replicate, List.length_replicate]; omega
theorem wI_get {n i : Nat} (h : i < n) : (wI n i)[i]? = some 0 := by
 unfold wI
 rw [List.getElem?_append_right (by rw [List.length_replicate]; exact Nat.le_refl _), List.length_replicate, Nat.sub_self, List.getElem?_replicate, if_pos (by omega)]
theorem wI_set {n i : Nat} (h : i < n) : (wI n i).set i (-1) = wI n (i + 1) := by
 unfold wI
 rw [List.set_append, if_neg (by rw [List.length_replicate]; exact Nat.lt_irrefl _), List.length_replicate, Nat.sub_self]
 have e : n - i = (n - (i + 1)) + 1 := by omega
 rw [e, List.replicate_succ, List.set_cons_zero, List.replicate_succ', List.append_assoc]
 rfl
theorem wI_0 (n : Nat) : wI n 0 = List.replicate n 0 := rfl
theorem wI_n (n : Nat) : wI n n = wroteF n [] := by
 rw [wroteF_nil]; unfold wI; rw [Nat.sub_self]; exact List.append_nil _
end Go.Proofs.YtpeifhiphfpajaaGreatDoor
namespace Go.Proofs.YtpeifhiphfpajaaGreatDoor
set_option maxRecDepth 20000
open Go Go.Proofs.YtpeifhiphfpajaaGreatDoor.V Go.Proofs
def rT (p : Prg) (r : Tr) : List (Nat × TObj) :=
 (0, .cells (cPrg p) 27) :: (rfT r.s 1 ++ [(5, .rows 6 (r.es.map cEv) 49), (6, .rows 1 (r.W.map cWt) 92), (7, .rows 1 ((wroteF r.s.mem.length r.wm).map fun n => [tI n]) 3)])
end Go.Proofs.YtpeifhiphfpajaaGreatDoor
namespace Go.Proofs.YtpeifhiphfpajaaGreatDoor
set_option maxRecDepth 20000
open Go Go.Proofs.YtpeifhiphfpajaaGreatDoor.V Go.Proofs
section
variable {p : Prg} {r : Tr} {k : Nat} {y : Thr}
theorem trS_noX {x : Pk} (h : (tsoW p r.s x.1 x.2).2 = false) : trS p r x = r := by
 unfold trS
 rw [if_neg (by rw [h]; exact Bool.false_ne_true)]
theorem trS_doX {f : Bool} (hd : (tsoW p r.s k f).2 = true) (hy : r.s.thr[k]? = some y) : trS p r ((k : Int), f) = doT p r k y f := by
 unfold trS
 simp only
 rw [if_pos hd, Int.toNat_natCast, hy]
theorem trS_2 (hy : r.s.thr[k]? = some y) (hd : (tsoW p r.s k false).2 = true) (h : (nextW p k y).kind = 2) : trS p r ((k : Int), false) = ⟨(tsoW p r.s k false).1, r.es ++ [⟨k, y.pc, 2, (nextW p k y).addr, frmW r k (nextW p k y).addr, -1⟩], r.W, r.wm, r.n⟩ := by
 rw [trS_doX hd hy]
 simp [doT, evOf, h]
theorem trS_3 (hy : r.s.thr[k]? = some y) (hd : (tsoW p r.s k false).2 = true) (h : (nextW p k y).kind = 3) : trS p r ((k : Int), false) = ⟨(tsoW p r.s k false).1, r.es ++ [⟨k, y.pc, 3, (nextW p k y).addr, -1, -1⟩], r.W.set k (r.W.getD k [] ++ [((nextW p k y).addr, (r.es.length : Int))]), r.wm, r.n⟩ := by
 rw [trS_doX hd hy]
 simp [doT, evOf, h]
theorem trS_o (hy : r.s.thr[k]? = some y) (hd : (tsoW p r.s k false).2 = true) (h2 : (nextW p k y).kind ≠ 2) (h3 : (nextW p k y).kind ≠ 3) (h4 : (nextW p k y).kind ≠ 4) : trS p r ((k : Int), false) = ⟨(tsoW p r.s k false).1, r.es ++ [⟨k, y.pc, (nextW p k y).kind, -1, -1, -1⟩], r.W, r.wm, r.n⟩ := by
 rw [trS_doX hd hy]
 simp [doT, evOf, h2, h3, h4]
theorem lk_none (hq : tQ p r) (hy : r.s.thr[k]? = some y) (hd : (tsoW p r.s k false).2 = true) (h : (nextW p k y).kind = 4) (a : Int) : frmW r k a = (lkI a r.wm).getD (-1) := by
 have hb : bufAt r.s k = [] := Classical.byContradiction fun hb => by
  rw [tsoW_s hy, stepB_w (.inl h) hb] at hd
  cases hd
 have hw : r.W.getD k [] = [] := by
  have := hq.bw k
  rw [hb] at this
  exact List.map_eq_nil_iff.1 this
 unfold frmW
 rw [hw]
 rfl
theorem trS_4f (hq : tQ p r) (hy : r.s.thr[k]? = some y) (hd : (tsoW p r.s k false).2 = true) (h : (nextW p k y).kind = 4) (hw : (swapW p k y (rdM r.s (nextW p k y).addr)).2.2 = false) :
  trS p r ((k : Int), false) = ⟨(tsoW p r.s k false).1, r.es ++ [⟨k, y.pc, 4, (nextW p k y).addr, (lkI (nextW p k y).addr r.wm).getD (-1), -1⟩], r.W, r.wm, r.n⟩ := by
 have hf := lk_none hq hy hd h (nextW p k y).addr
 rw [trS_doX hd hy]
 simp [doT, evOf, h, hf, hw]
theorem trS_4t (hq : tQ p r) (hy : r.s.thr[k]? = some y) (hd : (tsoW p r.s k false).2 = true) (h : (nextW p k y).kind = 4) (hw : (swapW p k y (rdM r.s (nextW p k y).addr)).2.2 = true) :
  trS p r ((k : Int), false) = ⟨(tsoW p r.s k false).1, r.es ++ [⟨k, y.pc, 4, (nextW p k y).addr, (lkI (nextW p k y).addr r.wm).getD (-1), r.n⟩], r.W, putI (nextW p k y).addr (r.es.length : Int) r.wm, r.n + 1⟩ := by
 have hf := lk_none hq hy hd h (nextW p k y).addr
 have hs : ∀ (e : Ev) (n : Int), setP (r.es ++ [e]) r.es.length n = r.es ++ [{ e with place := n }] := fun e n => by
  unfold setP
  rw [List.getElem?_append_right (Nat.le_refl _), Nat.sub_self]
  show (r.es ++ [e]).set _ _ = _
  rw [List.set_append, if_neg (Nat.lt_irrefl _), Nat.sub_self]
  rfl
 rw [trS_doX hd hy]
 simp [doT, evOf, h, hf, hw, wrT, hs]
theorem trS_f (hq : tQ p r) (hk : k < r.s.thr.length) {a j : Int} {w : List (Int × Int)} (hw : r.W.getD k [] = (a, j) :: w) : ∃ (jn : Nat) (e : Ev), j = (jn : Int) ∧ r.es[jn]? = some e ∧ (tsoW p r.s k true).2 = true ∧
  trS p r ((k : Int), true) = ⟨(tsoW p r.s k true).1, r.es.set jn { e with place := r.n }, r.W.set k w, putI a jn r.wm, r.n + 1⟩ := by
 obtain ⟨jn, e, h1, h2, _⟩ := hq.ev k (a, j) (by rw [hw]; exact List.mem_cons_self ..)
 have h1 : j = (jn : Int) := h1
 obtain ⟨g1, g2⟩ := trS_cons hq hk hw
 refine ⟨jn, e, h1, h2, g1, ?_⟩
 rw [g2, h1, Int.toNat_natCast]
 unfold wrT setP
 simp only [h2]
theorem tQ.first (hq : tQ p r) {a j : Int} {w : List (Int × Int)} (hw : r.W.getD k [] = (a, j) :: w) : 0 ≤ a ∧ a < r.s.mem.length := by
 have h := hq.bw k
 rw [hw] at h
 cases hb : bufAt r.s k with
 | nil => rw [hb] at h; cases h
 | cons e b =>
  rw [hb] at h
  have h1 : a = e.addr := (List.cons.inj h).1
  rw [h1]
  exact hq.en.at (k := k) (e := e) (by rw [hb]; exact List.mem_cons_self ..)
theorem trS_sz (hq : tQ p r) (x : Pk) : (trS p r x).es.length ≤ r.es.length + 1 ∧ (trS p r x).n ≤ r.n + 1 ∧ totW (trS p r x).W ≤ totW r.W + 1 := by
 obtain ⟨t, f⟩ := x
 have no : trS p r (t, f) = r → (trS p r (t, f)).es.length ≤ r.es.length + 1 ∧ (trS p r (t, f)).n ≤ r.n + 1 ∧ totW (trS p r (t, f)).W ≤ totW r.W + 1 := fun h => by
  rw [h]; exact ⟨Nat.le_succ _, Nat.le_succ _, Nat.le_succ _⟩
 by_cases ht : 0 ≤ t ∧ t < (r.s.thr.length : Int)
 ·obtain ⟨k, rfl⟩ : ∃ k : Nat, t = k := ⟨t.toNat, by omega⟩
  have hk : k < r.s.thr.length := by omega
  have hkW : k < r.W.length := by rw [hq.wl]; exact hk
  cases hd : (tsoW p r.s k f).2 with
  | false => exact no (trS_noX hd)
  | true =>
   cases f with
   | true =>
    cases hw : r.W.getD k [] with
    | nil => exact no (trS_nil hq hk hw).1
    | cons w0 w =>
     obtain ⟨a, j⟩ := w0
     obtain ⟨jn, e, _, _, _, g⟩ := trS_f hq hk hw
     have := totW_set (W := r.W) w hkW
     rw [hw, List.length_cons] at this
     rw [g]
     refine ⟨?_, Nat.le_refl _, ?_⟩
     ·show (r.es.set _ _).length ≤ _
      rw [List.length_set]; omega
     ·show totW (r.W.set k w) ≤ _
      omega
   | false =>
    have hy : r.s.thr[k]? = some r.s.thr[k] := List.getElem?_eq_getElem hk
    generalize r.s.thr[k] = y at hy
    have hl : ∀ e : Ev, (r.es ++ [e]).length ≤ r.es.length + 1 := fun e => by rw [lA]; exact Nat.le_refl _
    by_cases h2 : (nextW p k y).kind = 2
    ·rw [trS_2 hy hd h2]
     exact ⟨hl _, Nat.le_succ _, Nat.le_succ _⟩
    by_cases h3 : (nextW p k y).kind = 3
    ·rw [trS_3 hy hd h3]
     have := totW_set (W := r.W) (r.W.getD k [] ++ [((nextW p k y).addr, (r.es.length : Int))]) hkW
     rw [lA, List.length_singleton] at this
     refine ⟨hl _, Nat.le_succ _, ?_⟩
     show totW (r.W.set k _) ≤ _
     omega
    by_cases h4 : (nextW p k y).kind = 4
    ·cases hw : (swapW p k y (rdM r.s (nextW p k y).addr)).2.2 with
     | false =>
      rw [trS_4f hq hy hd h4 hw]
      exact ⟨hl _, Nat.le_succ _, Nat.le_succ _⟩
     | true =>
      rw [trS_4t hq hy hd h4 hw]
      exact ⟨hl _, Nat.le_refl _, Nat.le_succ _⟩
    rw [trS_o hy hd h2 h3 h4]
    exact ⟨hl _, Nat.le_succ _, Nat.le_succ _⟩
 ·exact no (trS_noX (by rw [tsoW_out ht]))
theorem trS_dec (hq : tQ p r) (hk : k < r.s.thr.length) (hw : r.W.getD k [] ≠ []) : totW (trS p r ((k : Int), true)).W + 1 = totW r.W := by
 cases hw' : r.W.getD k [] with
 | nil => exact absurd hw' hw
 | cons w0 w =>
  obtain ⟨a, j⟩ := w0
  obtain ⟨jn, e, _, _, _, g⟩ := trS_f hq hk hw'
  have := totW_set (W := r.W) w (by rw [hq.wl]; exact hk)
  rw [hw', List.length_cons] at this
  rw [g]
  show totW (r.W.set k w) + 1 = _
  omega
end
structure xQ (p : Prg) (l : List Pk) (r : Tr) (k m : Nat) : Prop where
 ex : ∃ pa : List Pk, pa.length = k ∧ r = trL p (beginR p) pa
 dr : drRA p (trL p r (l.drop k)) p.threads.length = trailR p l
 es : r.es.length ≤ k
 n : r.n ≤ k
 me : m = 2 * (l.length - k) + totW r.W
 km : k + m ≤ 2 * l.length
section
variable {p : Prg} {l : List Pk} {r : Tr} {k m : Nat}
theorem xQ.qp (hc : checkC p = 0) (h : xQ p l r k m) : tQ p r ∧ tP p r := by
 obtain ⟨pa, _, e⟩ := h.ex
 rw [e]
 obtain ⟨b1, b2⟩ := beginR_ok p
 exact run_ok hc pa b1 b2
theorem totW_0 : ∀ n, totW (List.replicate n ([] : List (Int × Int))) = 0
 | 0 => rfl
 | n + 1 => by
  rw [List.replicate_succ]
  show 0 + totW _ = 0
  rw [totW_0 n]
theorem xQ.zero (p : Prg) (l : List Pk) : xQ p l (beginR p) 0 (2 * l.length) :=
 ⟨⟨[], rfl, rfl⟩, rfl, Nat.le_refl _, Nat.le_refl _, by show _ = 2 * (l.length - 0) + totW (List.replicate _ []); rw [totW_0]; omega, by omega⟩
theorem xQ.ex2 (h : ∃ pa : List Pk, pa.length = k ∧ r = trL p (beginR p) pa) (x : Pk) : ∃ pa : List Pk, pa.length = k + 1 ∧ trS p r x = trL p (beginR p) pa := by
 obtain ⟨pa, e1, e2⟩ := h
 refine ⟨pa ++ [x], by rw [lA, e1]; rfl, ?_⟩
 rw [trL_app, ← e2]
 rfl
theorem xQ.step1 (hc : checkC p = 0) (h : xQ p l r k m) {x : Pk} (hx : l[k]? = some x) : ∃ m', m' < m ∧ xQ p l (trS p r x) (k + 1) m' := by
 obtain ⟨z1, z2, z3⟩ := trS_sz (h.qp hc).1 x
 have hk : k < l.length := (List.getElem?_eq_some_iff.1 hx).1
 have h1 := h.es
 have h2 := h.n
 have h3 := h.me
 have h4 := h.km
 refine ⟨2 * (l.length - (k + 1)) + totW (trS p r x).W, by omega, ⟨xQ.ex2 h.ex x, ?_, by omega, by omega, rfl, by omega⟩⟩
 rw [← h.dr]
 have e : l.drop k = x :: l.drop (k + 1) := by
  rw [List.drop_eq_getElem_cons hk]
  rw [List.getElem?_eq_getElem hk] at hx
  rw [Option.some.inj hx]
 rw [e]
 rfl
theorem xQ.step2 (hc : checkC p = 0) (h : xQ p l r k m) (hk : l.length ≤ k) {j : Nat} (hj : j < r.W.length) (h0 : ∀ i, i < j → r.W.getD i [] = []) (h1 : r.W.getD j [] ≠ []) : ∃ m', m' < m ∧ xQ p l (trS p r ((j : Int), true)) (k + 1) m' := by
 obtain ⟨q1, q2⟩ := h.qp hc
 obtain ⟨z1, z2, z3⟩ := trS_sz q1 ((j : Int), true)
 have hjt : j < r.s.thr.length := by rw [← q1.wl]; exact hj
 have hd := trS_dec q1 hjt h1
 have g1 := h.es
 have g2 := h.n
 have g3 := h.me
 have g4 := h.km
 refine ⟨2 * (l.length - (k + 1)) + totW (trS p r ((j : Int), true)).W, by omega, ⟨xQ.ex2 h.ex _, ?_, by omega, by omega, rfl, by omega⟩⟩
 rw [← h.dr, List.drop_eq_nil_of_le hk, List.drop_eq_nil_of_le (by omega)]
 show drRA p (trS p r _) _ = drRA p r _
 exact (drRA_step hc q1 q2 hjt h0 h1 _ (by rw [← q1.th]; exact hjt)).symm
theorem xQ.fin (h : xQ p l r k m) (hk : l.length ≤ k) (h0 : ∀ i, r.W.getD i [] = []) : trailR p l = r := by
 rw [← h.dr, List.drop_eq_nil_of_le hk]
 exact drRA_none h0 _
theorem xQ.facts (hc : checkC p = 0) (hn : numsOk p) (hq : stQ p (start0 p)) (h3 : p.threads.length ≤ 3) (hl : l.length ≤ 1000) (h : xQ p l r k m) : stQ p r.s ∧ r.s.bufs.length = r.s.thr.length ∧ r.s.thr.length = p.threads.length ∧ okS r.s ∧
  (∀ b ∈ r.s.bufs, b.length ≤ 1000000 ∧ ∀ e ∈ b, 0 ≤ e.addr ∧ e.addr < r.s.mem.length) ∧ r.s.lock = 0 := by
 obtain ⟨pa, e1, e2⟩ := h.ex
 have hkm := h.km
 have hqa := (beginM_ok hq).run hc hn pa
 have hs : (runT p (beginM p) pa).1 = r.s := by rw [runT_s, e2, trL_s]; rfl
 have hok := hqa.okS hc (by omega) (by omega)
 have hst := hqa.st
 have hbl := hqa.blen
 have hth := hqa.thr
 have hfw := hqa.few
 have hlk := hqa.lock
 rw [hs] at hok hst hbl hth hfw hlk
 exact ⟨hst, hbl, hth, hok, fun b hb => ⟨by have := (hfw b hb).1; omega, (hfw b hb).2⟩, hlk⟩
end
end Go.Proofs.YtpeifhiphfpajaaGreatDoor
namespace Go.Proofs.YtpeifhiphfpajaaGreatDoor
set_option maxRecDepth 20000
open Go Go.Proofs.YtpeifhiphfpajaaGreatDoor.V Go.Proofs
def kE (e : Ev) : Int × Int × Int := (e.th, e.ins, e.kind)
theorem setP_key (es : List Ev) (k : Nat) (n : Int) : (setP es k n).map kE = es.map kE := by
 unfold setP
 cases h : es[k]? with
 | none => rfl
 | some e =>
  simp only
  rw [List.map_set]
  have h2 : (es.map kE)[k]? = some (kE e) := by rw [List.getElem?_map, h]; rfl
  apply List.ext_getElem?
  intro i
  by_cases hi : k = i
  ·subst hi
   rw [List.getElem?_set_self (List.getElem?_eq_some_iff.1 h2).1, h2]; rfl
  ·rw [List.getElem?_set_ne hi]
section
variable {p : Prg} {r : Tr} {k : Nat} {y : Thr}
theorem trS_keyF (t : Int) : (trS p r (t, true)).es.map kE = r.es.map kE := by
 unfold trS
 simp only
 split
 ·split
  ·rename_i y _
   unfold doT
   simp only
   rw [if_pos trivial]
   cases r.W.getD t.toNat [] with
   | nil => rfl
   | cons w0 w =>
    obtain ⟨a, j⟩ := w0
    exact setP_key _ _ _
  ·rfl
 ·rfl
theorem trS_keyS (hy : r.s.thr[k]? = some y) (hd : (tsoW p r.s k false).2 = true) : (trS p r ((k : Int), false)).es.map kE = r.es.map kE ++ [((k : Int), y.pc, (nextW p k y).kind)] := by
 rw [trS_doX hd hy]
 have e1 : (r.es ++ [evOf p r k y]).map kE = r.es.map kE ++ [((k : Int), y.pc, (nextW p k y).kind)] := by rw [List.map_append]; rfl
 unfold doT
 simp only
 rw [if_neg Bool.false_ne_true]
 split
 ·exact e1
 ·split
  ·show (setP _ _ _).map kE = _
   rw [setP_key]; exact e1
  ·exact e1
theorem trL_key (p : Prg) : ∀ (l : List Pk) (r : Tr), ∃ u, (trL p r l).es.map kE = r.es.map kE ++ u
 | [], r => ⟨[], by rw [List.append_nil]; rfl⟩
 | x :: l, r => by
  obtain ⟨u, hu⟩ := trL_key p l (trS p r x)
  have hu : (trL p r (x :: l)).es.map kE = (trS p r x).es.map kE ++ u := hu
  obtain ⟨t, f⟩ := x
  rw [hu]
  by_cases hd : (tsoW p r.s t f).2 = true
  ·have ht : 0 ≤ t ∧ t < (r.s.thr.length : Int) := Classical.byContradiction fun h => by rw [tsoW_out h] at hd; cases hd
   obtain ⟨k, rfl⟩ : ∃ k : Nat, t = k := ⟨t.toNat, by omega⟩
   have hy : r.s.thr[k]? = some r.s.thr[k] := List.getElem?_eq_getElem (by omega)
   cases f with
   | true => exact ⟨u, by rw [trS_keyF]⟩
   | false =>
    rw [trS_keyS hy hd, List.append_assoc]
    exact ⟨_, rfl⟩
  ·have hd : (tsoW p r.s t f).2 = false := by cases h : (tsoW p r.s t f).2 with
    | true => exact absurd h hd
    | false => rfl
   exact ⟨u, by rw [trS_noX hd]⟩
theorem trL_keyF (p : Prg) (t : Int) : ∀ (n : Nat) (r : Tr), (trL p r (List.replicate n (t, true))).es.map kE = r.es.map kE
 | 0, _ => rfl
 | n + 1, r => by
  rw [List.replicate_succ]
  show (trL p (trS p r (t, true)) (List.replicate n (t, true))).es.map kE = _
  rw [trL_keyF p t n, trS_keyF]
theorem drRA_key (p : Prg) (r : Tr) : ∀ n, (drRA p r n).es.map kE = r.es.map kE
 | 0 => rfl
 | n + 1 => by
  show (trL p (drRA p r n) (List.replicate _ _)).es.map kE = _
  rw [trL_keyF, drRA_key p r n]
theorem trail_at {l a b : List Pk} (e : l = a ++ (((k : Int), false) :: b)) (hr : r = trL p (beginR p) a) (hy : r.s.thr[k]? = some y) (hd : (tsoW p r.s k false).2 = true) :
  ∃ v, (trailR p l).es[r.es.length]? = some v ∧ v.th = (k : Int) ∧ v.ins = y.pc ∧ v.kind = (nextW p k y).kind := by
 have h1 : (trailR p l).es.map kE = (trL p (beginR p) l).es.map kE := drRA_key ..
 obtain ⟨u, hu⟩ := trL_key p b (trS p r ((k : Int), false))
 have h2 : trL p (beginR p) l = trL p (trS p r ((k : Int), false)) b := by
  rw [e, trL_app, ← hr]; rfl
 rw [h2, hu, trS_keyS hy hd, List.append_assoc] at h1
 have h3 : ((trailR p l).es.map kE)[r.es.length]? = some ((k : Int), y.pc, (nextW p k y).kind) := by
  rw [h1, List.getElem?_append_right (by rw [lM]; exact Nat.le_refl _), lM, Nat.sub_self]
  rfl
 rw [List.getElem?_map] at h3
 cases hv : (trailR p l).es[r.es.length]? with
 | none => rw [hv] at h3; cases h3
 | some v =>
  rw [hv] at h3
  have h4 := Option.some.inj h3
  exact ⟨v, rfl, congrArg (·.1) h4, congrArg (·.2.1) h4, congrArg (·.2.2) h4⟩
theorem trS_el (hy : r.s.thr[k]? = some y) (hd : (tsoW p r.s k false).2 = true) : (trS p r ((k : Int), false)).es.length = r.es.length + 1 := by
 have := congrArg List.length (trS_keyS (p := p) hy hd)
 rw [lM, lA, lM] at this
 exact this
theorem trS_elF (t : Int) : (trS p r (t, true)).es.length = r.es.length := by
 have := congrArg List.length (trS_keyF (p := p) (r := r) t)
 rw [lM, lM] at this
 exact this
theorem trailR_el (p : Prg) (l : List Pk) : (trailR p l).es.length = (trL p (beginR p) l).es.length := by
 have := congrArg List.length (drRA_key p (trL p (beginR p) l) p.threads.length)
 rw [lM, lM] at this
 exact this
end
end Go.Proofs.YtpeifhiphfpajaaGreatDoor
namespace Go.Proofs.YtpeifhiphfpajaaGreatDoor
set_option maxRecDepth 20000
open Go Go.Proofs.YtpeifhiphfpajaaGreatDoor.V Go.Proofs
def invSt (p : Prg) (row : List Pk) (es : List Ev) (m : Nat) (env : TEnv) (σ : TS) : Prop :=
 ∃ a b r, row = a ++ b ∧ m = b.length ∧ r = trL p (beginR p) a ∧ env = [(5, .p 0 0), (6, .lst 2 (row.map cPick)), (7, .lst 6 (es.map cEv)), (8, .p 1 0), (9, tI r.es.length), (10, tI a.length)] ∧ σ = ⟨(0, .cells (cPrg p) 27) :: rfT r.s 1, 60⟩
theorem trL_snoc (p : Prg) (r : Tr) (a : List Pk) (x : Pk) : trL p r (a ++ [x]) = trS p (trL p r a) x := by rw [trL_app]; rfl
theorem trL_es (p : Prg) : ∀ (l : List Pk) (r : Tr), (trL p r l).es.length ≤ r.es.length + l.length
 | [], _ => Nat.le_refl _
 | x :: l, r => by
  have h1 := (trS_len p r x).1
  have h2 := trL_es p l (trS p r x)
  show (trL p (trS p r x) l).es.length ≤ _
  rw [List.length_cons]; omega
section
attribute [local irreducible] TwS TwR thenT inBlockT retT nextW localW loadedW swapW Rg.push Rg.pop trailR tsoW stepB flushW trS trL
set_option maxHeartbeats 20000000 in
theorem trailSteps (l : List (List Act)) (hl : ∀ r ∈ l, ∀ a ∈ r, inR a.n) (picks : List Int) : Pure prog Tabs 4 [cActs l, rwI picks] (tB true) := by
 obtain ⟨p, ho, hc, hn, c1, h3, hq, _⟩ := book_sc l hl
 have hth : (p.threads.map cTh).length = p.threads.length := lM ..
 have c4 := picks_own (G := Tabs) picks (p.threads.map cTh).length 60 (by omega) (by decide)
 have hsl := picksF_len picks (p.threads.map cTh).length 60
 generalize picksF picks (p.threads.map cTh).length 60 = row at c4 hsl
 have hsm : (row.map cPick).length = row.length := lM ..
 have c6 := trailOf_spec p ho hc hn hq h3 row (by omega) (fun h hm x => do_own p h hm x)
 have hel := trailR_el p row
 have hat := fun {r : Tr} {k : Nat} {y : Thr} {a b : List Pk} => @trail_at p r k y row a b
 have hle := trL_es p row (beginR p)
 have hle0 : (beginR p).es.length = 0 := rfl
 have c11 := aliveR_spec
 have hq0 := beginM_ok hq
 obtain ⟨k1, k2, k3, _⟩ := check_syms hc
 have c2 := beginT_own (G := Tabs) p k1 k2 k3
 have hsA : ∀ a, (runT p (beginM p) a).1 = (trL p (beginR p) a).s := fun a => by rw [runT_s, trL_s]; rfl
 have hes : (trailR p row).es = (trailR p row).es := rfl
 generalize (trailR p row).es = es at *
 have hem : (es.map cEv).length = es.length := lM ..
 refine Pure.at mixedOk F4 rfl fun C hP hG hp => goF ?_; simp only [F4, targEnv, Nat.zero_add, Nat.reduceAdd]
 repeat' (first | refine goR rfl ?_ | refine goS rfl ?_ | refine tret1 rfl ?_ | refine tretN rfl ?_ | refine gY rfl rfl ?_ | refine gN rfl rfl ?_ | refine qT rfl rfl ?_ | refine qF rfl rfl ?_ | refine cA rfl (by rw [hP]; exact c1 _) rfl ?_ | (refine tr_mcallX hP hG (c4) rfl rfl rfl rfl rfl rfl rfl rfl rfl rfl rfl rfl ?_; refine tr_frzS 19 rfl rfl hsm.symm ?_) | refine cA rfl (by rw [hP, hG]; exact c6) rfl ?_ | refine tr_mcallX hP hG (c2) rfl rfl rfl rfl rfl rfl rfl rfl rfl rfl rfl rfl ?_ | fail)
 refine loopS (invSt p row es) row.length (w_canon 60 [] [5, 6, 7, 8, 9, 10] hp rfl rfl rfl rfl) ⟨[], row, beginR p, rfl, rfl, by unfold trL; rfl, rfl, rfl⟩ ?_
 rintro m1 env σ ⟨a, b, r, e, rfl, hr, rfl, rfl⟩
 have hla : row.length = a.length + b.length := by rw [e, lA]
 cases b with
 | nil =>
  rw [List.length_nil] at hla
  rw [List.append_nil] at e
  have hfin : r.es.length = es.length := by rw [hel, e, hr]
  repeat' (first | refine goR rfl ?_ | refine goS rfl ?_ | refine tret1 rfl ?_ | refine tretN rfl ?_ | refine gY rfl rfl ?_ | refine gN rfl rfl ?_ | refine qT rfl rfl ?_ | refine qF rfl rfl ?_ | refine qF rfl (dF (by omega)) ?_ | refine tg_t rfl (dT (by omega)) ?_ | refine cA rfl (by rw [hP, hG]; exact c11) rfl ?_ | fail)
  exact .fr rfl
 | cons x b =>
  have hx : row[a.length]? = some x := by rw [e]; exact ix
  simp only [List.length_cons] at hla
  have hlt : decide ((a.length : Int) < ((row.map cPick).length : Int)) = true := dT (by omega)
  have hw1 : IntKind.i64.wrap ((a.length : Int) + 1) = ((a ++ [x]).length : Int) := by rw [w64 (by omega), lA]; rfl
  have hqa := hq0.run hc hn a
  have hok := hqa.okS hc (by omega) (by omega)
  have hst := hqa.st
  have hbl := hqa.blen
  have hthr := hqa.thr
  have hfw := hqa.few
  rw [hsA a, ← hr] at hok hst hbl hthr hfw
  have hrl : r.es.length ≤ a.length := by
   have := trL_es p a (beginR p)
   rw [← hr] at this
   omega
  have hnx : trS p r x = trL p (beginR p) (a ++ [x]) := by rw [trL_snoc, ← hr]
  have hss := trS_s p r x
  have cC := refCopy_own (G := Tabs) r.s hok
  have cT := tsoR_own p ho hc r.s hst hbl (by omega) (fun l hl => ⟨by have := (hfw l hl).1; omega, (hfw l hl).2⟩) x.1 x.2
  obtain ⟨t, f⟩ := x
  simp only at cT hss
  rw [← hss] at cT
  cases hd : (tsoW p r.s t f).2 with
  | false =>
   have hno : trS p r (t, f) = r := trS_noX hd
   rw [hd] at cT
   rw [hno] at cT hnx
   clear hno hss hat hel hqa hfw
   repeat' (first | refine goR rfl ?_ | refine goS rfl ?_ | refine tret1 rfl ?_ | refine tretN rfl ?_ | refine gY rfl rfl ?_ | refine gN rfl rfl ?_ | refine qT rfl rfl ?_ | refine qF rfl rfl ?_ | refine qT rfl hlt ?_ | refine lT (tl_ixm rfl rfl rfl hx) ?_ | (refine tr_mcallX hP hG (cC) rfl rfl rfl rfl rfl rfl rfl rfl rfl rfl rfl rfl ?_; refine tr_frzA 35 0 rfl rfl rfl (lM ..).symm ?_; refine tr_frzA 35 1 rfl rfl rfl (lM ..).symm ?_; refine tr_frzA 35 2 rfl rfl rfl (lM ..).symm ?_) | refine tr_mcallX hP hG (cT) rfl rfl rfl rfl rfl rfl rfl rfl rfl rfl rfl rfl ?_ | fail)
   exact again (m' := b.length) (Nat.lt_succ_self _) (w_canon 60 [] [5, 6, 7, 8, 9, 10] hp rfl rfl rfl rfl) ⟨a ++ [(t, f)], b, r, by rw [e]; simp, rfl, hnx, by rw [hw1], rfl⟩
  | true =>
   have ht : 0 ≤ t ∧ t < (r.s.thr.length : Int) := Classical.byContradiction fun h => by rw [tsoW_out h] at hd; cases hd
   obtain ⟨k, rfl⟩ : ∃ k : Nat, t = k := ⟨t.toNat, by omega⟩
   have hkl : k < r.s.thr.length := by omega
   have hy : r.s.thr[k]? = some r.s.thr[k] := List.getElem?_eq_getElem hkl
   generalize r.s.thr[k] = y at hy
   rw [hd] at cT
   cases f with
   | true =>
    have hl2 := trS_elF (p := p) (r := r) (k : Int)
    clear hss hat hel hqa hfw
    generalize trS p r ((k : Int), true) = r2 at *
    repeat' (first | refine goR rfl ?_ | refine goS rfl ?_ | refine tret1 rfl ?_ | refine tretN rfl ?_ | refine gY rfl rfl ?_ | refine gN rfl rfl ?_ | refine qT rfl rfl ?_ | refine qF rfl rfl ?_ | refine qT rfl hlt ?_ | refine lT (tl_ixm rfl rfl rfl hx) ?_ | (refine tr_mcallX hP hG (cC) rfl rfl rfl rfl rfl rfl rfl rfl rfl rfl rfl rfl ?_; refine tr_frzA 35 0 rfl rfl rfl (lM ..).symm ?_; refine tr_frzA 35 1 rfl rfl rfl (lM ..).symm ?_; refine tr_frzA 35 2 rfl rfl rfl (lM ..).symm ?_) | refine tr_mcallX hP hG (cT) rfl rfl rfl rfl rfl rfl rfl rfl rfl rfl rfl rfl ?_ | fail)
    exact again (m' := b.length) (Nat.lt_succ_self _) (w_canon 60 [] [5, 6, 7, 8, 9, 10] hp rfl rfl rfl rfl) ⟨a ++ [((k : Int), true)], b, r2, by rw [e]; simp, rfl, hnx, by rw [hw1, hl2], rfl⟩
   | false =>
    have hl2 := trS_el hy hd
    obtain ⟨v, hv, v1, v2, v3⟩ := hat e hr hy hd
    have cn := next_spec2 p ho hc k y
    have hvl := (List.getElem?_eq_some_iff.1 hv).1
    have hw2 : IntKind.i64.wrap ((r.es.length : Int) + 1) = ((r.es.length + 1 : Nat) : Int) := by rw [w64 (by omega)]; rfl
    clear hss hat hel hqa hfw
    generalize trS p r ((k : Int), false) = r2 at *
    generalize nextW p k y = d at *
    obtain ⟨th, ins, kd, ad, fr, pl⟩ := v
    obtain ⟨dk, da, dv⟩ := d
    simp only at v1 v2 v3
    subst v1 v2 v3
    repeat' (first | refine goR rfl ?_ | refine goS rfl ?_ | refine tret1 rfl ?_ | refine tretN rfl ?_ | refine gY rfl rfl ?_ | refine gN rfl rfl ?_ | refine qT rfl rfl ?_ | refine qF rfl rfl ?_ | refine qT rfl hlt ?_ | refine lT (tl_ixm rfl rfl rfl hx) ?_ | refine lT (tl_ixm rfl rfl rfl hv) ?_ | refine lT (tl_ixm rfl rfl rfl hy) ?_ | (refine tr_mcallX hP hG (cC) rfl rfl rfl rfl rfl rfl rfl rfl rfl rfl rfl rfl ?_; refine tr_frzA 35 0 rfl rfl rfl (lM ..).symm ?_; refine tr_frzA 35 1 rfl rfl rfl (lM ..).symm ?_; refine tr_frzA 35 2 rfl rfl rfl (lM ..).symm ?_) | refine tr_mcallX hP hG (cT) rfl rfl rfl rfl rfl rfl rfl rfl rfl rfl rfl rfl ?_ | refine cA rfl (by rw [hP, hG]; exact cn) rfl ?_ | refine tg_f rfl (dF (by omega)) ?_ | refine tg_f rfl (ndF rfl) ?_ | refine qF rfl (ndF rfl) ?_ | fail)
    exact again (m' := b.length) (Nat.lt_succ_self _) (w_canon 60 [] [5, 6, 7, 8, 9, 10] hp rfl rfl rfl rfl) ⟨a ++ [((k : Int), false)], b, r2, by rw [e]; simp, rfl, hnx, by rw [hw1, hl2, hw2], rfl⟩
end
end Go.Proofs.YtpeifhiphfpajaaGreatDoor
