/-
  Walks of functions of the program, and what the laws need of them.
-/
import Derived.Test.YtpeifhiphfpajaaGreatDoorRPL
import Derived.Test.YtpeifhiphfpajaaGreatDoorRPK
import Derived.Test.YtpeifhiphfpajaaGreatDoorVI
set_option linter.all false
set_option linter.unusedSimpArgs false
set_option linter.unusedVariables false
set_option linter.unnecessarySimpa false
namespace Go.Proofs.YtpeifhiphfpajaaGreatDoor
set_option maxRecDepth 20000
open Go Go.Proofs.YtpeifhiphfpajaaGreatDoor.V Go.Proofs
def cI (n : Int) : List TV := [tI n]
structure WQ where
 xs : List (List TV)
 o : Nat
 n : Nat
def slotsO : Nat → List WQ → List TV
 | _, [] => []
 | k, q :: Q => .s k 1 q.o q.n true :: slotsO (k + 1) Q
def wrowsO : Nat → List WQ → List (Nat × TObj)
 | _, [] => []
 | k, q :: Q => (k, .rows 1 q.xs 3) :: wrowsO (k + 1) Q
def waitO : Nat → List WQ → TObj
 | _, [] => .rows 1 [] 23
 | k, q :: Q => .cells (slotsO k (q :: Q)) 23
def trO (p : Prg) (s : State) (R : List Rg) (Q : List WQ) (N : Nat) (X : List (List TV)) (wm : List (Int × Int)) (n : Int) : List (Nat × TObj) :=
 (0, .cells [.fp (cCore p) 0, .p 1 0, .s (5 + 2 * R.length) 6 0 N true, .s (6 + 2 * R.length) 1 0 Q.length true, .m (7 + 2 * R.length + Q.length), tI n] 86) ::
  (tsM p s R 1 ++ ((5 + 2 * R.length, .rows 6 X 49) :: (6 + 2 * R.length, waitO (7 + 2 * R.length) Q) :: (wrowsO (7 + 2 * R.length) Q ++ [(7 + 2 * R.length + Q.length, .map (mapI wm))])))
def trC (p : Prg) (r : Tr) (R : List Rg) (Q : List WQ) : List (Nat × TObj) := trO p r.s R Q r.es.length (r.es.map cEv) r.wm r.n
def okQ (q : WQ) (w : List (Int × Int)) : Prop := q.n = w.length ∧ q.xs.length = q.o + q.n ∧ q.xs.drop q.o = w.map fun e => cI e.2
def qR (r : Tr) (Q : List WQ) : Prop := Q.length = r.W.length ∧ ∀ (t : Nat) (q : WQ), Q[t]? = some q → okQ q (r.W.getD t [])
theorem place33 {α β : Type} {l : List α} {l' : List β} {k : Nat} {x : α} (h : l.length ≤ 3) (e : l'.length = l.length) (hk : l[k]? = some x) : (k = 0 ∧ l = [x] ∧ ∃ x', l' = [x']) ∨ (∃ b, k = 0 ∧ l = [x, b] ∧ ∃ x' b', l' = [x', b']) ∨ (∃ a, k = 1 ∧ l = [a, x] ∧ ∃ a' x', l' = [a', x']) ∨
  (∃ b c, k = 0 ∧ l = [x, b, c] ∧ ∃ x' b' c', l' = [x', b', c']) ∨ (∃ a c, k = 1 ∧ l = [a, x, c] ∧ ∃ a' x' c', l' = [a', x', c']) ∨ ∃ a b, k = 2 ∧ l = [a, b, x] ∧ ∃ a' b' x', l' = [a', b', x'] := by
 have h3 : l'.length ≤ 3 := by omega
 rcases place3 h hk with ⟨rfl, rfl⟩ | ⟨b, rfl, rfl⟩ | ⟨b, rfl, rfl⟩ | ⟨b, c, rfl, rfl⟩ | ⟨b, c, rfl, rfl⟩ | ⟨b, c, rfl, rfl⟩ <;> rcases rows3 h3 with rfl | ⟨a', rfl⟩ | ⟨a', b', rfl⟩ | ⟨a', b', c', rfl⟩ <;> first
  | (simp at e; done)
  | exact .inl ⟨rfl, rfl, _, rfl⟩
  | exact .inr (.inl ⟨_, rfl, rfl, _, _, rfl⟩)
  | exact .inr (.inr (.inl ⟨_, rfl, rfl, _, _, rfl⟩))
  | exact .inr (.inr (.inr (.inl ⟨_, _, rfl, rfl, _, _, _, rfl⟩)))
  | exact .inr (.inr (.inr (.inr (.inl ⟨_, _, rfl, rfl, _, _, _, rfl⟩))))
  | exact .inr (.inr (.inr (.inr (.inr ⟨_, _, rfl, rfl, _, _, _, rfl⟩))))
theorem rowsAB {α β : Type} {l : List α} {l' : List β} (h : l.length ≤ 3) (e : l'.length = l.length) : (l = [] ∧ l' = []) ∨ (∃ a a', l = [a] ∧ l' = [a']) ∨ (∃ a b a' b', l = [a, b] ∧ l' = [a', b']) ∨ ∃ a b c a' b' c', l = [a, b, c] ∧ l' = [a', b', c'] := by
 rcases rows3 h with rfl | ⟨a, rfl⟩ | ⟨a, b, rfl⟩ | ⟨a, b, c, rfl⟩ <;> rcases rows3 (l := l') (by omega) with rfl | ⟨a', rfl⟩ | ⟨a', b', rfl⟩ | ⟨a', b', c', rfl⟩ <;> first
  | (simp at e; done)
  | exact .inl ⟨rfl, rfl⟩
  | exact .inr (.inl ⟨_, _, rfl, rfl⟩)
  | exact .inr (.inr (.inl ⟨_, _, _, _, rfl, rfl⟩))
  | exact .inr (.inr (.inr ⟨_, _, _, _, _, _, rfl, rfl⟩))
theorem lastA_hit {u v : List (Int × Int)} {a j : Int} (h : ∀ q ∈ v, q.1 ≠ a) : lastA (u ++ (a, j) :: v) a = some j := by
 unfold lastA
 rw [List.reverse_append, List.reverse_cons, List.append_assoc, List.find?_append]
 have : v.reverse.find? (fun e => decide (e.1 = a)) = none := List.find?_eq_none.2 fun q hq => by simpa using h q (List.mem_reverse.1 hq)
 rw [this, Option.none_or, List.singleton_append, List.find?_cons]
 simp
theorem lastA_no {w : List (Int × Int)} {a : Int} (h : ∀ q ∈ w, q.1 ≠ a) : lastA w a = none := by
 unfold lastA
 have : w.reverse.find? (fun e => decide (e.1 = a)) = none := List.find?_eq_none.2 fun q hq => by simpa using h q (List.mem_reverse.1 hq)
 rw [this]; rfl
theorem okQ.at {q : WQ} {u v : List (Int × Int)} {b j : Int} (h : okQ q (u ++ (b, j) :: v)) : q.xs[q.o + u.length]? = some (cI j) := by
 obtain ⟨h1, h2, h3⟩ := h
 have : (q.xs.drop q.o)[u.length]? = some (cI j) := by
  rw [h3, List.getElem?_map, List.getElem?_append_right (Nat.le_refl _), Nat.sub_self]; rfl
 rwa [List.getElem?_drop] at this
def invFr (p : Prg) (s : State) {R : List Rg} {Q : List WQ} {k : Nat} (N : Nat) (X : List (List TV)) (wm : List (Int × Int)) (n : Int) (_ : R.length = Q.length) (_ : k < Q.length) (a : Int) (w : List (Int × Int)) (m : Nat) (env : TEnv) (σ : TS) : Prop :=
 ∃ u v, w = u ++ v ∧ (∀ q ∈ v, q.1 ≠ a) ∧ m = u.length ∧ env = [(0, .p 0 0), (1, tI k), (2, tI a), (7, tI ((u.length : Int) - 1))] ∧ σ = ⟨trO p s R Q N X wm n, 60⟩
section
attribute [local irreducible] TwS TwR thenT inBlockT retT nextW localW loadedW swapW Rg.push Rg.pop tsoW doR
variable {G : World → Prop}
set_option maxHeartbeats 20000000 in
theorem from_own (p : Prg) (s : State) {R : List Rg} {Q : List WQ} (es : List Ev) (wm : List (Int × Int)) (n : Int) (hR : R.length = Q.length) (h3 : Q.length ≤ 3) (hm : es.length ≤ 1000000) (k : Nat) (hk : k < Q.length) {q : WQ} (hgk : Q[k]? = some q) (w : List (Int × Int)) (hqk : okQ q w) (hwk : w.length ≤ 1000000)
  (hev : ∀ e ∈ w, ∃ (j : Nat) (x : Ev), e.2 = (j : Int) ∧ es[j]? = some x ∧ x.addr = e.1) (a : Int) :
  TC prog G 55 [.p 0 0, tI k, tI a] ⟨trO p s R Q es.length (es.map cEv) wm n, 60⟩ [0] (fun v σ' => v = tI ((lastA w a).getD ((lkI a wm).getD (-1))) ∧ σ' = ⟨trO p s R Q es.length (es.map cEv) wm n, 60⟩) := by
 obtain ⟨r1, f1, f2⟩ := findR_int a wm true 0
 have hqn := hqk.1
 rcases place33 (l' := R) h3 hR hgk with ⟨rfl, rfl, _, rfl⟩ | ⟨_, rfl, rfl, _, _, rfl⟩ | ⟨_, rfl, rfl, _, _, rfl⟩ | ⟨_, _, rfl, rfl, _, _, _, rfl⟩ | ⟨_, _, rfl, rfl, _, _, _, rfl⟩ | ⟨_, _, rfl, rfl, _, _, _, rfl⟩
 all_goals
  refine TC.at mixedOk F55 rfl fun C hP hG hp => goF ?_; simp only [F55, targEnv, Nat.zero_add, Nat.reduceAdd]
  repeat' (first | refine goR rfl ?_ | refine goS rfl ?_ | refine tret1 rfl ?_ | refine tretN rfl ?_ | refine gY rfl rfl ?_ | refine gN rfl rfl ?_ | refine qT rfl rfl ?_ | refine qF rfl rfl ?_ | refine lT (tl_ixo rfl rfl rfl (Nat.le_of_ble_eq_true rfl)) ?_ | refine lT (tl_ldEC rfl rfl rfl) ?_ | fail)
  refine loopS (invFr p s es.length (es.map cEv) wm n hR hk a w) w.length (w_canonM 60 [0] [0, 1, 2, 7] hp rfl rfl rfl rfl ⟨mapI_froz _, trivial⟩) ⟨w, [], (List.append_nil w).symm, fun q hq => (by cases hq), rfl, by rw [hqn, w64 (by omega)], rfl⟩ ?_
  rintro m1 env σ ⟨u, v2, hwe, hv, rfl, rfl, rfl⟩
  rcases List.eq_nil_or_concat u with rfl | ⟨u', ⟨b, j⟩, hu⟩
  ·rw [List.nil_append] at hwe
   have hres : lastA w a = none := lastA_no (by rw [hwe]; exact hv)
   rw [hres]
   cases hl : lkI a wm
   all_goals
    rw [hl] at f2
    repeat' (first | refine goR rfl ?_ | refine goS rfl ?_ | refine tret1 rfl ?_ | refine tretN rfl ?_ | refine gY rfl rfl ?_ | refine gN rfl rfl ?_ | refine qT rfl rfl ?_ | refine qF rfl rfl ?_ | refine qF rfl (dF (by simp)) ?_ | (refine lT (tl_lookM rfl rfl rfl rfl f1) ?_; rw [f2]) | fail)
    exact tretXM 60 [0] rfl hp rfl rfl rfl rfl ⟨mapI_froz _, trivial⟩ ⟨rfl, rfl⟩
  ·rw [List.concat_eq_append] at hu
   subst hu
   have hwe2 : w = u' ++ (b, j) :: v2 := by rw [hwe]; simp
   obtain ⟨jn, e, e1, e2, e3⟩ := hev (b, j) (by rw [hwe2]; simp)
   simp only at e1 e3
   subst e1
   have hjl := (List.getElem?_eq_some_iff.1 e2).1
   have hes : (es.map cEv)[jn]? = some (cEv e) := by rw [List.getElem?_map, e2]; rfl
   have hul : (u' ++ [(b, (jn : Int))]).length = u'.length + 1 := by rw [lA]; rfl
   have hidx : ((u' ++ [(b, (jn : Int))]).length : Int) - 1 = (u'.length : Int) := by omega
   have hwl : w.length = u'.length + 1 + v2.length := by rw [hwe2, lA, List.length_cons]; omega
   have hge : decide (((u' ++ [(b, (jn : Int))]).length : Int) - 1 ≥ 0) = true := dT (by omega)
   have hin : u'.length < q.n := by omega
   have hrow : q.xs[q.o + u'.length]? = some (cI jn) := by rw [hwe2] at hqk; exact hqk.at
   by_cases hb : b = a
   ·have hres : lastA w a = some (jn : Int) := by rw [hwe2, hb]; exact lastA_hit hv
    have hdec : decide (e.addr = a) = true := dT (e3.trans hb)
    rw [hres]
    repeat' (first | refine goR rfl ?_ | refine goS rfl ?_ | refine tret1 rfl ?_ | refine tretN rfl ?_ | refine gY rfl rfl ?_ | refine gN rfl rfl ?_ | refine qT rfl rfl ?_ | refine qF rfl rfl ?_ | refine qT rfl hge ?_ | refine qT rfl hdec ?_ | refine lT (tl_ixo rfl rfl rfl (Nat.le_of_ble_eq_true rfl)) ?_ | refine lT (tl_ldEC rfl rfl rfl) ?_ | refine lT (tl_ixO (m := u'.length) rfl rfl hidx hin) ?_ | refine lT (tl_ldE rfl rfl hrow rfl) ?_ | refine lT (tl_ixo (m := jn) rfl rfl rfl hjl) ?_ | refine lT (tl_ldE rfl rfl hes rfl) ?_ | fail)
    exact tretXM 60 [0] rfl hp rfl rfl rfl rfl ⟨mapI_froz _, trivial⟩ ⟨rfl, rfl⟩
   ·have hdec : decide (e.addr = a) = false := dF (by rw [e3]; exact hb)
    repeat' (first | refine goR rfl ?_ | refine goS rfl ?_ | refine tret1 rfl ?_ | refine tretN rfl ?_ | refine gY rfl rfl ?_ | refine gN rfl rfl ?_ | refine qT rfl rfl ?_ | refine qF rfl rfl ?_ | refine qT rfl hge ?_ | refine qF rfl hdec ?_ | refine lT (tl_ixo rfl rfl rfl (Nat.le_of_ble_eq_true rfl)) ?_ | refine lT (tl_ldEC rfl rfl rfl) ?_ | refine lT (tl_ixO (m := u'.length) rfl rfl hidx hin) ?_ | refine lT (tl_ldE rfl rfl hrow rfl) ?_ | refine lT (tl_ixo (m := jn) rfl rfl rfl hjl) ?_ | refine lT (tl_ldE rfl rfl hes rfl) ?_ | fail)
    refine again (m' := u'.length) (by omega) (w_canonM 60 [0] [0, 1, 2, 7] hp rfl rfl rfl rfl ⟨mapI_froz _, trivial⟩) ⟨u', (b, (jn : Int)) :: v2, hwe2, fun q hq => ?_, rfl, ?_, rfl⟩
    ·rcases List.mem_cons.1 hq with rfl | hq
     ·exact hb
     ·exact hv q hq
    ·rw [hidx, w64 (by omega)]
theorem setP_map (es : List Ev) {k : Nat} {e : Ev} (he : es[k]? = some e) (n : Int) : (setP es k n).map cEv = (es.map cEv).set k (cEv { e with place := n }) := by
 unfold setP
 rw [he]
 simp only
 rw [List.map_set]
set_option maxHeartbeats 20000000 in
theorem write_own (p : Prg) (s : State) {R : List Rg} {Q : List WQ} (N : Nat) (X : List (List TV)) (wm : List (Int × Int)) (n : Nat) (hR : R.length = Q.length) (h3 : Q.length ≤ 3) (hn : n ≤ 1000000) (k : Nat) {e : Ev} (hN : N = X.length) (he : X[k]? = some (cEv e)) :
  TC prog G 53 [.p 0 0, tI k] ⟨trO p s R Q N X wm n, 60⟩ [0] (fun v σ' => v = .tup [] ∧ σ' = ⟨trO p s R Q N (X.set k (cEv { e with place := n })) (putI e.addr k wm) ((n + 1 : Nat) : Int), 60⟩) := by
 have hkm := (List.getElem?_eq_some_iff.1 he).1
 have hkl : k < N := by omega
 have hw1 : IntKind.i64.wrap ((n : Int) + 1) = ((n + 1 : Nat) : Int) := by rw [w64 (by omega)]; rfl
 have hpk := putK_int e.addr k wm
 rcases rowsAB h3 hR with ⟨rfl, rfl⟩ | ⟨_, _, rfl, rfl⟩ | ⟨_, _, _, _, rfl, rfl⟩ | ⟨_, _, _, _, _, _, rfl, rfl⟩
 all_goals
  refine TC.at mixedOk F53 rfl fun C hP hG hp => goF ?_; simp only [F53, targEnv, Nat.zero_add, Nat.reduceAdd]
  repeat' (first | refine goR rfl ?_ | refine goS rfl ?_ | refine tret1 rfl ?_ | refine tretN rfl ?_ | refine gY rfl rfl ?_ | refine gN rfl rfl ?_ | refine qT rfl rfl ?_ | refine qF rfl rfl ?_ | refine lT (tl_ixo rfl rfl rfl hkl) ?_ | refine tr_storeE rfl rfl he rfl rfl rfl rfl rfl rfl ?_ | refine lT (tl_ldE rfl rfl (List.getElem?_set_self hkm) rfl) ?_ | refine tr_mapset rfl rfl rfl rfl rfl hpk rfl ?_ | fail)
  refine tretXNM 60 [0] rfl hp rfl rfl rfl rfl ⟨mapI_froz _, trivial⟩ ⟨rfl, ?_⟩
  rw [hw1]
  rfl
end
end Go.Proofs.YtpeifhiphfpajaaGreatDoor
namespace Go.Proofs.YtpeifhiphfpajaaGreatDoor
set_option maxRecDepth 20000
open Go Go.Proofs.YtpeifhiphfpajaaGreatDoor.V Go.Proofs
theorem flushW_no2 {s : State} {t : Nat} (h : (flushW s t).2 = false) : (flushW s t).1 = s ∧ bufAt s t = [] := by
 cases hb : bufAt s t with
 | nil => rw [flushW_nil hb]; exact ⟨rfl, rfl⟩
 | cons e r => rw [flushW_cons hb] at h; cases h
theorem mW_no {p : Prg} {m : Nat} {s : State} {R : List Rg} (h : mQ p m (s, R)) {t : Int} {f : Bool} (hd : (tsoW p s t f).2 = false) : mW p (s, R) (t, f) = (s, R) := by
 by_cases ht : 0 ≤ t ∧ t < (s.thr.length : Int)
 ·obtain ⟨k, rfl⟩ : ∃ k : Nat, t = k := ⟨t.toNat, by omega⟩
  have hkl : k < s.thr.length := by omega
  have hx : s.thr[k]? = some s.thr[k] := List.getElem?_eq_getElem hkl
  generalize s.thr[k] = y at hx
  cases f with
  | true =>
   rw [tsoW_f hkl] at hd
   exact (mW_id h hkl (flushW_no2 hd).2).1
  | false =>
   rw [tsoW_s hx] at hd
   have h3 : (nextW p k y).kind ≠ 3 := fun h3 => by rw [stepB_3 h3] at hd; cases hd
   obtain ⟨r, hr⟩ := h.rg.has hx
   show ((tsoW p s k false).1, doR p s R k false) = (s, R)
   rw [tsoW_s hx, stepB_no' hd, doR_n hx hr h3]
 ·show ((tsoW p s t f).1, doR p s R t f) = (s, R)
  rw [tsoW_out ht, doR_out ht]
structure trW (p : Prg) (r : Tr) (R : List Rg) (Q : List WQ) (m : Nat) : Prop where
 ok : okP p
 ck : checkC p = 0
 nm : numsOk p
 mq : mQ p m (r.s, R)
 mm : m ≤ 1000
 th : p.threads.length ≤ 3
 q : tQ p r
 w : qR r Q
 es : r.es.length ≤ 1000
 n : r.n ≤ 1000
def doQ (p : Prg) (r : Tr) (Q : List WQ) (t : Int) (f : Bool) : List WQ := if (tsoW p r.s t f).2 = true then (match r.s.thr[t.toNat]?, Q[t.toNat]? with
 | some y, some q => if f = true then Q.set t.toNat ⟨q.xs, q.o + 1, q.n - 1⟩ else if (nextW p t y).kind = 3 then Q.set t.toNat ⟨q.xs.drop q.o ++ [cI r.es.length], 0, q.n + 1⟩ else Q
 | _, _ => Q) else Q
section
attribute [local irreducible] TwS TwR thenT inBlockT retT nextW localW loadedW swapW Rg.push Rg.pop tsoW doR stepB flushW
set_option maxHeartbeats 20000000 in
theorem do_no (p : Prg) {r : Tr} {R : List Rg} {Q : List WQ} {m : Nat} (hW : trW p r R Q m) (t : Int) (f : Bool) (hd : (tsoW p r.s t f).2 = false) :
  TC prog Tabs 23 [.p 0 0, .agg [tI t, tB f]] ⟨trC p r R Q, 60⟩ [0] (fun v σ' => v = .tup [] ∧ σ' = ⟨trC p (trS p r (t, f)) (doR p r.s R t f) (doQ p r Q t f), 60⟩) := by
 obtain ⟨ho, hc, hn, hmq, hmm, h3, hq, hQ, hes, hrn⟩ := id hW
 have hRQ : R.length = Q.length := by rw [hQ.1, hq.wl]; exact hmq.rg.len
 have hQ3 : Q.length ≤ 3 := by rw [hQ.1, hq.wl, hq.th]; exact h3
 have cst := tstate_own (G := Tabs) p _ hmq (by omega) (by have := hmq.memLen hc; omega) h3
 have cdo := tdo_own p ho hc _ hmq (by omega) h3 t f
 have hst := hmq.st
 have hlen := doR_len p r.s R t f
 simp only at cst cdo hst
 have hno := mW_no hmq hd
 have e1 : doR p r.s R t f = R := congrArg Prod.snd hno
 have e2 : trS p r (t, f) = r := by unfold trS; rw [hd]; rfl
 have e3 : doQ p r Q t f = Q := by unfold doQ; rw [hd]; rfl
 rw [hno, hd] at cdo
 rw [e1, e2, e3]
 simp only at cdo
 show TC prog Tabs 23 _ ⟨trO p r.s R Q r.es.length (r.es.map cEv) r.wm r.n, 60⟩ _ (fun v σ' => v = .tup [] ∧ σ' = ⟨trO p r.s R Q r.es.length (r.es.map cEv) r.wm r.n, 60⟩)
 rcases rowsAB hQ3 hRQ with ⟨rfl, rfl⟩ | ⟨_, _, rfl, rfl⟩ | ⟨_, _, _, _, rfl, rfl⟩ | ⟨_, _, _, _, _, _, rfl, rfl⟩
 all_goals
  refine TC.at mixedOk F23 rfl fun C hP hG hp => goF ?_; simp only [F23, targEnv, Nat.zero_add, Nat.reduceAdd]
  repeat' (first | refine goR rfl ?_ | refine goS rfl ?_ | refine tret1 rfl ?_ | refine tretN rfl ?_ | refine gY rfl rfl ?_ | refine gN rfl rfl ?_ | refine qT rfl rfl ?_ | refine qF rfl rfl ?_ | refine tr_mcallXM hP hG (cst) rfl rfl rfl rfl rfl rfl rfl rfl rfl rfl rfl rfl ⟨mapI_froz _, trivial⟩ trivial ?_ | refine tr_mcallXM hP hG (cdo) rfl rfl rfl rfl rfl rfl rfl rfl rfl rfl rfl rfl ⟨mapI_froz _, trivial⟩ trivial ?_ | fail)
  exact tretXM 60 [0] rfl hp rfl rfl rfl rfl ⟨mapI_froz _, trivial⟩ ⟨rfl, rfl⟩
set_option maxHeartbeats 20000000 in
theorem do_f (p : Prg) {r : Tr} {R : List Rg} {Q : List WQ} {m : Nat} (hW : trW p r R Q m) (k : Nat) {y : Thr} (hy : r.s.thr[k]? = some y) (hd : (tsoW p r.s k true).2 = true) :
  TC prog Tabs 23 [.p 0 0, .agg [tI k, tB true]] ⟨trC p r R Q, 60⟩ [0] (fun v σ' => v = .tup [] ∧ σ' = ⟨trC p (trS p r ((k : Int), true)) (doR p r.s R k true) (doQ p r Q k true), 60⟩) := by
 obtain ⟨ho, hc, hn, hmq, hmm, h3, hq, hQ, hes, hrn⟩ := id hW
 have hRQ : R.length = Q.length := by rw [hQ.1, hq.wl]; exact hmq.rg.len
 have hQ3 : Q.length ≤ 3 := by rw [hQ.1, hq.wl, hq.th]; exact h3
 have cst := tstate_own (G := Tabs) p _ hmq (by omega) (by have := hmq.memLen hc; omega) h3
 have cdo := tdo_own p ho hc _ hmq (by omega) h3 k true
 have hst := hmq.st
 have hlen := doR_len p r.s R k true
 simp only at cst cdo hst
 have hkl : k < r.s.thr.length := (List.getElem?_eq_some_iff.1 hy).1
 have hyt : (r.s.thr.map cThr)[k]? = some (cThr y) := by rw [List.getElem?_map, hy]; rfl
 have hyq := (hst.thr y (List.mem_of_getElem? hy)).r
 have hkq : k < Q.length := by rw [hQ.1, hq.wl]; exact hkl
 have hgk : Q[k]? = some Q[k] := List.getElem?_eq_getElem hkq
 have hok := hQ.2 k _ hgk
 generalize Q[k] = q at hgk hok
 have hbl : (bufAt r.s k).length ≤ m := hmq.bufAt k
 have hwl : (r.W.getD k []).length = (bufAt r.s k).length := by have := congrArg List.length (hq.bw k); rwa [lM, lM] at this
 have hml : (r.es.map cEv).length = r.es.length := lM ..
 rw [hd] at cdo
 have hR' : (doR p r.s R k true).length = Q.length := by rw [hlen]; exact hRQ
 have hR'3 : (doR p r.s R k true).length ≤ 3 := by omega
 show TC prog Tabs 23 _ ⟨trO p r.s R Q r.es.length (r.es.map cEv) r.wm r.n, 60⟩ _ _
 obtain ⟨q1, q2, q3⟩ := id hok
 cases hw : r.W.getD k [] with
 | nil =>
  exfalso
  rw [hw] at hwl
  have : bufAt r.s k = [] := List.length_eq_zero_iff.1 hwl.symm
  rw [tsoW_f hkl, flushW_nil this] at hd; cases hd
 | cons e0 w =>
  obtain ⟨a, j⟩ := e0
  obtain ⟨jn, ev, v1, v2, v3, _⟩ := hq.ev k (a, j) (by rw [hw]; exact List.mem_cons_self ..)
  simp only at v1 v3
  subst v1 v3
  have hfin : trC p (trS p r ((k : Int), true)) (doR p r.s R k true) (doQ p r Q k true) = trO p (tsoW p r.s k true).1 (doR p r.s R k true) (Q.set k ⟨q.xs, q.o + 1, q.n - 1⟩) r.es.length ((r.es.map cEv).set jn (cEv { ev with place := r.n })) (putI ev.addr jn r.wm) ((r.n + 1 : Nat) : Int) := by
   have e2 : trS p r ((k : Int), true) = wrT { r with s := (tsoW p r.s k true).1, W := r.W.set k w } ev.addr jn := by
    unfold trS doT
    rw [if_pos hd]
    simp only [Int.toNat_natCast, hy, if_true, hw]
   have e3 : doQ p r Q k true = Q.set k ⟨q.xs, q.o + 1, q.n - 1⟩ := by
    unfold doQ
    rw [if_pos hd]
    simp only [Int.toNat_natCast, hy, hgk, if_true]
   rw [e2, e3]
   unfold trC
   show trO p _ _ _ (setP r.es jn r.n).length ((setP r.es jn r.n).map cEv) _ _ = _
   rw [setP_len, setP_map r.es v2]; rfl
  rw [hfin]
  clear hfin
  have hrow : q.xs[q.o + 0]? = some (cI jn) := by rw [hw] at hok; exact hok.at (u := [])
  have hqn : q.n = w.length + 1 := by rw [q1, hw]; rfl
  have hn1 : 0 < q.n := by omega
  have cw := write_own (G := Tabs) p (tsoW p r.s k true).1 (R := doR p r.s R k true) (Q := Q.set k ⟨q.xs, q.o + 1, q.n - 1⟩) r.es.length (r.es.map cEv) r.wm r.n (by rw [List.length_set]; exact hR') (by rw [List.length_set]; exact hQ3) (by omega) jn (e := ev) hml.symm (by rw [List.getElem?_map, v2]; rfl)
  have hmw : mW p (r.s, R) ((k : Int), true) = ((tsoW p r.s k true).1, doR p r.s R k true) := rfl
  rw [hmw] at cdo
  simp only at cdo
  generalize (tsoW p r.s k true).1 = s' at *
  generalize doR p r.s R k true = R' at *
  rcases place33 (l' := R) hQ3 hRQ hgk with ⟨rfl, rfl, _, rfl⟩ | ⟨_, rfl, rfl, _, _, rfl⟩ | ⟨_, rfl, rfl, _, _, rfl⟩ | ⟨_, _, rfl, rfl, _, _, _, rfl⟩ | ⟨_, _, rfl, rfl, _, _, _, rfl⟩ | ⟨_, _, rfl, rfl, _, _, _, rfl⟩
  all_goals rcases rows3 hR'3 with rfl | ⟨_, rfl⟩ | ⟨_, _, rfl⟩ | ⟨_, _, _, rfl⟩
  all_goals first | (exfalso; simp at hR'; done) | skip
  all_goals
   refine TC.at mixedOk F23 rfl fun C hP hG hp => goF ?_; simp only [F23, targEnv, Nat.zero_add, Nat.reduceAdd]
   repeat' (first | refine goR rfl ?_ | refine goS rfl ?_ | refine tret1 rfl ?_ | refine tretN rfl ?_ | refine gY rfl rfl ?_ | refine gN rfl rfl ?_ | refine qT rfl rfl ?_ | refine qF rfl rfl ?_ | refine tr_mcallXM hP hG (cst) rfl rfl rfl rfl rfl rfl rfl rfl rfl rfl rfl rfl ⟨mapI_froz _, trivial⟩ trivial ?_ | refine tr_mcallXM hP hG (cdo) rfl rfl rfl rfl rfl rfl rfl rfl rfl rfl rfl rfl ⟨mapI_froz _, trivial⟩ trivial ?_ | refine lT (tl_ixo rfl rfl rfl (Nat.le_of_ble_eq_true rfl)) ?_ | refine lT (tl_ldEC rfl rfl rfl) ?_ | refine lT (tl_ixO (m := 0) rfl rfl rfl hn1) ?_ | refine lT (tl_ldE rfl rfl hrow rfl) ?_ | refine lT (tl_slcO (m := 1) rfl rfl rfl rfl (by omega) (by omega) (by decide)) ?_ | refine tr_storeEC rfl rfl rfl rfl rfl rfl rfl ?_ | refine tr_mcallXM hP hG (cw) rfl rfl rfl rfl rfl rfl rfl rfl rfl rfl rfl rfl ⟨mapI_froz _, trivial⟩ ⟨mapI_froz _, trivial⟩ ?_ | fail)
   exact tretXM 60 [0] rfl hp rfl rfl rfl rfl ⟨mapI_froz _, trivial⟩ ⟨rfl, rfl⟩
end
end Go.Proofs.YtpeifhiphfpajaaGreatDoor
namespace Go.Proofs.YtpeifhiphfpajaaGreatDoor
set_option maxRecDepth 20000
open Go Go.Proofs.YtpeifhiphfpajaaGreatDoor.V Go.Proofs
section
variable {p : Prg} {r : Tr} {R : List Rg} {Q : List WQ} {m : Nat}
theorem trS_len (p : Prg) (r : Tr) (x : Pk) : (trS p r x).es.length ≤ r.es.length + 1 ∧ (trS p r x).n ≤ r.n + 1 := by
 unfold trS
 split
 ·split
  ·unfold doT
   split
   ·split
    ·exact ⟨Nat.le_succ _, Nat.le_succ _⟩
    ·refine ⟨?_, Nat.le_refl _⟩
     show (setP r.es _ _).length ≤ _
     rw [setP_len]; exact Nat.le_succ _
   ·simp only
    split
    ·refine ⟨?_, Nat.le_succ _⟩
     show (r.es ++ [_]).length ≤ _
     rw [lA]; exact Nat.le_refl _
    ·split
     ·refine ⟨?_, Nat.le_refl _⟩
      show (setP (r.es ++ [_]) _ _).length ≤ _
      rw [setP_len, lA]; exact Nat.le_refl _
     ·refine ⟨?_, Nat.le_succ _⟩
      show (r.es ++ [_]).length ≤ _
      rw [lA]; exact Nat.le_refl _
  ·exact ⟨Nat.le_succ _, Nat.le_succ _⟩
 ·exact ⟨Nat.le_succ _, Nat.le_succ _⟩
theorem set_get {α : Type} {l : List α} {k t : Nat} {x y : α} (h : (l.set k x)[t]? = some y) : (t = k ∧ y = x) ∨ (t ≠ k ∧ l[t]? = some y) := by
 by_cases ht : t = k
 ·subst ht
  have hl : t < l.length := by have := (List.getElem?_eq_some_iff.1 h).1; rwa [List.length_set] at this
  rw [List.getElem?_set_self hl] at h
  cases h
  exact .inl ⟨rfl, rfl⟩
 ·rw [List.getElem?_set_ne (fun e => ht e.symm)] at h
  exact .inr ⟨ht, h⟩
theorem qR.step (hq : tQ p r) (hQ : qR r Q) (x : Pk) : qR (trS p r x) (doQ p r Q x.1 x.2) := by
 obtain ⟨t, f⟩ := x
 unfold trS doQ
 simp only
 cases hd : (tsoW p r.s t f).2 with
 | false => exact hQ
 | true =>
  rw [if_pos rfl, if_pos rfl]
  have ht : 0 ≤ t ∧ t < (r.s.thr.length : Int) := Classical.byContradiction fun h => by rw [tsoW_out h] at hd; cases hd
  obtain ⟨k, rfl⟩ : ∃ k : Nat, t = k := ⟨t.toNat, by omega⟩
  have hkl : k < r.s.thr.length := by omega
  have hx : r.s.thr[k]? = some r.s.thr[k] := List.getElem?_eq_getElem hkl
  generalize r.s.thr[k] = y at hx
  have hkw : k < r.W.length := by rw [hq.wl]; exact hkl
  have hkq : k < Q.length := by rw [hQ.1]; exact hkw
  have hgk : Q[k]? = some Q[k] := List.getElem?_eq_getElem hkq
  have hok := hQ.2 k _ hgk
  generalize Q[k] = q at hgk hok
  rw [Int.toNat_natCast, hx, hgk]
  simp only
  obtain ⟨q1, q2, q3⟩ := hok
  cases f with
  | true =>
   rw [if_pos rfl]
   unfold doT
   simp only [if_true]
   rw [tsoW_f hkl] at hd
   have hbw := hq.bw k
   cases hw : r.W.getD k [] with
   | nil =>
    rw [hw] at hbw
    cases hb : bufAt r.s k with
    | nil => rw [flushW_nil hb] at hd; cases hd
    | cons e B => rw [hb] at hbw; simp at hbw
   | cons e0 w =>
    obtain ⟨a, j⟩ := e0
    rw [hw] at q1 q3
    rw [List.length_cons] at q1
    refine ⟨by show (Q.set k _).length = (r.W.set k w).length; rw [List.length_set, List.length_set]; exact hQ.1, fun t' q' hq' => ?_⟩
    show okQ q' ((r.W.set k w).getD t' [])
    rw [getW_set hkw]
    rcases set_get hq' with ⟨rfl, rfl⟩ | ⟨hne, hq'⟩
    ·rw [if_pos rfl]
     refine ⟨by show q.n - 1 = _; omega, by show q.xs.length = q.o + 1 + (q.n - 1); omega, ?_⟩
     show q.xs.drop (q.o + 1) = _
     rw [← List.drop_drop, q3]; rfl
    ·rw [if_neg hne]
     exact hQ.2 t' q' hq'
  | false =>
   rw [if_neg (by decide)]
   unfold doT
   simp only [Bool.false_eq_true, if_false]
   by_cases h3 : (nextW p k y).kind = 3
   ·rw [if_pos h3, if_pos (show (evOf p r k y).kind = 3 from h3)]
    refine ⟨by show (Q.set k _).length = (r.W.set k _).length; rw [List.length_set, List.length_set]; exact hQ.1, fun t' q' hq' => ?_⟩
    show okQ q' ((r.W.set k _).getD t' [])
    rw [getW_set hkw]
    rcases set_get hq' with ⟨rfl, rfl⟩ | ⟨hne, hq'⟩
    ·rw [if_pos rfl]
     have hl : (q.xs.drop q.o).length = q.n := by rw [List.length_drop]; omega
     refine ⟨by show q.n + 1 = _; rw [lA, q1]; rfl, by show (q.xs.drop q.o ++ [_]).length = 0 + (q.n + 1); rw [lA, hl, List.length_singleton]; omega, ?_⟩
     show (q.xs.drop q.o ++ [cI r.es.length]).drop 0 = _
     rw [List.drop_zero, q3, List.map_append]; rfl
    ·rw [if_neg hne]
     exact hQ.2 t' q' hq'
   ·rw [if_neg h3, if_neg (show ¬ (evOf p r k y).kind = 3 from h3)]
    split
    ·exact hQ
    ·exact hQ
def tmW (p : Prg) (c : Tr × List Rg × List WQ) (x : Pk) : Tr × List Rg × List WQ := (trS p c.1 x, doR p c.1.s c.2.1 x.1 x.2, doQ p c.1 c.2.2 x.1 x.2)
def tmL (p : Prg) (c : Tr × List Rg × List WQ) (l : List Pk) : Tr × List Rg × List WQ := l.foldl (tmW p) c
theorem tmL_snoc (p : Prg) (c : Tr × List Rg × List WQ) (l : List Pk) (x : Pk) : tmL p c (l ++ [x]) = tmW p (tmL p c l) x := by unfold tmL; rw [List.foldl_append]; rfl
theorem tmL_r (p : Prg) : ∀ (l : List Pk) (c : Tr × List Rg × List WQ), (tmL p c l).1 = trL p c.1 l
 | [], _ => rfl
 | x :: l, c => tmL_r p l (tmW p c x)
structure trV (p : Prg) (c : Tr × List Rg × List WQ) (m : Nat) : Prop where
 ok : okP p
 ck : checkC p = 0
 nm : numsOk p
 mq : mQ p m (c.1.s, c.2.1)
 th : p.threads.length ≤ 3
 q : tQ p c.1
 pp : tP p c.1
 w : qR c.1 c.2.2
 es : c.1.es.length ≤ m
 n : c.1.n ≤ m
theorem trV.step {c : Tr × List Rg × List WQ} (h : trV p c m) (x : Pk) : trV p (tmW p c x) (m + 1) := by
 obtain ⟨l1, l2⟩ := trS_len p c.1 x
 refine ⟨h.ok, h.ck, h.nm, ?_, h.th, h.q.step h.ck x, h.pp.step h.ck h.q x, h.w.step h.q x, by have := h.es; show (trS p c.1 x).es.length ≤ _; omega, by have := h.n; show (trS p c.1 x).n ≤ _; omega⟩
 have := h.mq.step h.ck h.nm x
 show mQ p (m + 1) ((trS p c.1 x).s, _)
 rw [trS_s]
 exact this
theorem trV.run : ∀ (l : List Pk) {c : Tr × List Rg × List WQ} {m : Nat}, trV p c m → trV p (tmL p c l) (m + l.length)
 | [], _, _, h => h
 | x :: l, c, m, h => by
  have := trV.run l (h.step x)
  rw [List.length_cons, show m + (l.length + 1) = m + 1 + l.length by omega]
  exact this
theorem trV.to {c : Tr × List Rg × List WQ} (h : trV p c m) (hm : m ≤ 1000) : trW p c.1 c.2.1 c.2.2 m := ⟨h.ok, h.ck, h.nm, h.mq, hm, h.th, h.q, h.w, by have := h.es; omega, by have := h.n; omega⟩
def tmB (p : Prg) : Tr × List Rg × List WQ := (beginR p, (beginM p).2, List.replicate p.threads.length ⟨[], 0, 0⟩)
theorem tmB_ok (ho : okP p) (hc : checkC p = 0) (hn : numsOk p) (hq : stQ p (start0 p)) (h3 : p.threads.length ≤ 3) : trV p (tmB p) 0 := by
 refine ⟨ho, hc, hn, beginM_ok hq, h3, (beginR_ok p).1, (beginR_ok p).2, ⟨?_, fun t q hq' => ?_⟩, Nat.le_refl _, Nat.le_refl _⟩
 ·show (List.replicate _ _).length = (List.replicate _ _).length
  rw [List.length_replicate, List.length_replicate]
 ·have h1 := (List.mem_replicate.1 (List.mem_of_getElem? hq')).2
  subst h1
  have h2 : (beginR p).W.getD t [] = [] := by
   show (List.replicate p.threads.length []).getD t [] = []
   rw [List.getD_eq_getElem?_getD, List.getElem?_replicate]
   split <;> rfl
  show okQ _ ((beginR p).W.getD t [])
  rw [h2]
  exact ⟨rfl, rfl, rfl⟩
end
end Go.Proofs.YtpeifhiphfpajaaGreatDoor
