/-
  The abstract semantics V: compiled code, its soundness.
-/
import Derived.Test.YtnphhelbianjpaaGreatDoorVC
import Derived.Deep.LoopGhost
set_option linter.all false
set_option linter.unusedSimpArgs false
set_option linter.unusedVariables false
set_option linter.unnecessarySimpa false
namespace Go.Proofs.YtnphhelbianjpaaGreatDoor.V
open Go Go.RowKit

section
variable (P : Program) (N : Nat)

def dstOk (d : Option Nat) : Bool := match d with | some d => decide (d < N) | none => true

def guardT (ops : Array Oper) : Option (Nat × Bool) → Option (Option (Nat × Bool))
 | none => some none
 | some (j, want) => match (ops[j]?).bind (·.dst) with
  | some t => some (some (t, want))
  | none => none

def ropOf (ops : Array Oper) (o : Oper) : Option ROp :=
 match cop P o.op, guardT ops o.guard with
 | some c, some g => if dstOk N o.dst then some ⟨o.dst, g, c, false, []⟩ else none
 | _, _ => none

def ropsOf (ops : Array Oper) : List Oper → Option (List ROp)
 | [] => some []
 | o :: r => match ropOf P N ops o, ropsOf ops r with
  | some x, some l => some (x :: l)
  | _, _ => none

def firstOf (T : List Nat) (X : Nat) (p : Nat → Bool) : List Nat → Option (Nat × List Nat)
 | [] => none
 | i :: r => if (T.getD i 0 &&& X == T.getD i 0) && p i then some (i, r) else match firstOf T X p r with
  | some (j, r') => some (j, i :: r')
  | none => none

def asap (T : List Nat) (heavy : Nat → Bool) : Nat → Nat → List Nat → List Nat
 | 0, _, _ => []
 | n + 1, X, l => match firstOf T X (fun i => !heavy i) l with
  | some (i, r) => i :: asap T heavy n (X ||| (1 <<< i)) r
  | none => match firstOf T X (fun _ => true) l with
   | some (i, r) => i :: asap T heavy n (X ||| (1 <<< i)) r
   | none => []

def readers (T : List Nat) (y : Nat) (pre : List (Nat × ROp)) : List LOp :=
 pre.filterMap fun x => match x.2.op with
  | .light l => if l.readsHeap && !bit (T.getD y 0) x.1 then some l else none
  | _ => none

def decoOne (T : List Nat) (pre : List (Nat × ROp)) (y : Nat × ROp) : Nat × ROp :=
 match y.2.op with
 | .call _ _ => (y.1, { y.2 with quiet := !(readers T y.1 pre).isEmpty, keeps := readers T y.1 pre })
 | .heavy _ => (y.1, { y.2 with keeps := readers T y.1 pre })
 | _ => y

def deco (T : List Nat) (L : List (Nat × ROp)) : List (Nat × ROp) := L.mapIdx fun q y => decoOne T (L.take q) y

def notIn (d : Option Nat) (l : List Nat) : Bool := match d with | some d => !l.contains d | none => true
def apart (d e : Option Nat) : Bool := match d, e with | some d, some e => d != e | _, _ => true

def pairB (ops : Array Oper) (T : List Nat) (x y : Nat × ROp) : Bool :=
 x.1 != y.1 && apart x.2.dst y.2.dst &&
 (bit (T.getD y.1 0) x.1 || (!x.2.op.isHeavy && (match ops[x.1]?, ops[y.1]? with
  | some ox, some oy => notIn x.2.dst (readsOf oy y.2) && notIn y.2.dst (readsOf ox x.2)
  | _, _ => false)))

def keepB (T : List Nat) (L : List (Nat × ROp)) (q : Nat) (y : Nat × ROp) : Bool :=
 match y.2.op.isHeavy with
 | true => (List.range q).all fun p => match L[p]? with
  | some x => (match x.2.op with
   | .light l => !l.readsHeap || bit (T.getD y.1 0) x.1 || ((L.take q).drop p).all fun z => notIn z.2.dst (tmpsOf l.ops)
   | _ => true)
  | none => true
 | false => true

def backB : Nat → List Oper → Bool
 | _, [] => true
 | i, o :: r => (o.after.toList.all fun e => !Region.binds .any e || decide (e.on < i)) && backB (i + 1) r

def schedB (ops : Array Oper) (T : List Nat) (L : List (Nat × ROp)) : Bool :=
 ((List.range ops.size).all fun i => L.any fun x => x.1 == i) &&
 ((List.range L.length).all fun q => match L[q]? with
  | some y => ((L.take q).all fun x => pairB ops T x y) && keepB T L q y
  | none => false) &&
 backB 0 ops.toList

def getAll (rs : List ROp) : List Nat → Option (List (Nat × ROp))
 | [] => some []
 | i :: r => match rs[i]?, getAll rs r with
  | some x, some l => some ((i, x) :: l)
  | _, _ => none

def cregion (ops : Array Oper) (draw : Bool) : Option (List ROp) :=
 match ropsOf P N ops ops.toList with
 | none => none
 | some rs =>
  if draw then
   match getAll rs (asap (ancM ops.toList []) (fun i => match rs[i]? with | some r => r.op.isHeavy | none => true) ops.size 0 (List.range ops.size)) with
   | some L => if schedB ops (ancM ops.toList []) L then some ((deco (ancM ops.toList []) L).map (·.2)) else none
   | none => none
  else some rs

variable {P N}

theorem ropOf_ok {ops : Array Oper} {o : Oper} {r : ROp} (h : ropOf P N ops o = some r) : ROk P N ops o r := by
 unfold ropOf at h
 split at h
 ·rename_i c g hc hg
  split at h
  ·rename_i hd
   cases h
   refine ⟨rfl, ?_, cop_ok hc, ?_⟩
   ·intro d hdd
    simp only at hdd
    rw [hdd] at hd
    simpa [dstOk] using hd
   ·cases hog : o.guard with
    | none => rw [hog] at hg; simp only [guardT, Option.some.injEq] at hg; subst hg; trivial
    | some q =>
     obtain ⟨j, want⟩ := q
     rw [hog] at hg
     simp only [guardT] at hg
     split at hg
     ·rename_i t ht
      cases hg
      exact ⟨rfl, ht⟩
     ·cases hg
  ·cases h
 ·cases h

theorem ropsOf_ok {ops : Array Oper} : ∀ (l : List Oper) (rs : List ROp), ropsOf P N ops l = some rs → rs.length = l.length ∧ ∀ (i : Nat) (o : Oper) (r : ROp), l[i]? = some o → rs[i]? = some r → ROk P N ops o r := by
 intro l
 induction l with
 | nil => intro rs h; cases h; exact ⟨rfl, by simp⟩
 | cons o l ih =>
  intro rs h
  simp only [ropsOf] at h
  split at h
  ·rename_i x l' h1 h2
   cases h
   obtain ⟨i1, i2⟩ := ih l' h2
   refine ⟨by simp [i1], ?_⟩
   intro i o' r' ho hr
   cases i with
   | zero => simp at ho hr; subst ho; subst hr; exact ropOf_ok h1
   | succ i => exact i2 i o' r' (by simpa using ho) (by simpa using hr)
  ·cases h

theorem getAll_ok {rs : List ROp} : ∀ (l : List Nat) (L : List (Nat × ROp)), getAll rs l = some L → ∀ (p i : Nat) (r : ROp), L[p]? = some (i, r) → rs[i]? = some r := by
 intro l
 induction l with
 | nil => intro L h; cases h; simp
 | cons i l ih =>
  intro L h
  simp only [getAll] at h
  split at h
  ·rename_i x l' h1 h2
   cases h
   intro p j r hp
   cases p with
   | zero => simp at hp; obtain ⟨rfl, rfl⟩ := hp; exact h1
   | succ p => exact ih l' h2 p j r (by simpa using hp)
  ·cases h

theorem decoOne_same (T : List Nat) (pre : List (Nat × ROp)) (y : Nat × ROp) : (decoOne T pre y).1 = y.1 ∧ (decoOne T pre y).2.dst = y.2.dst ∧ (decoOne T pre y).2.guard = y.2.guard ∧ (decoOne T pre y).2.op = y.2.op := by
 unfold decoOne
 split <;> simp_all

theorem backB_ok : ∀ (l : List Oper) (k : Nat), backB k l = true → ∀ (i : Nat) (o : Oper), l[i]? = some o → ∀ e ∈ o.after.toList, Region.binds .any e = true → e.on < k + i := by
 intro l
 induction l with
 | nil => intro k _ i o h; simp at h
 | cons o l ih =>
  intro k h i o' ho e he hb
  simp only [backB, Bool.and_eq_true, List.all_eq_true] at h
  cases i with
  | zero =>
   simp at ho; subst ho
   have := h.1 e he
   simpa [hb] using this
  | succ i =>
   have := ih (k + 1) h.2 i o' (by simpa using ho) e he hb
   omega

theorem notIn_ok {d : Option Nat} {l : List Nat} (h : notIn d l = true) : ∀ k, d = some k → k ∉ l := by
 intro k hk hm
 subst hk
 simp only [notIn, Bool.not_eq_true', List.contains_eq_mem] at h
 simp at h
 exact h hm

theorem readsOf_same (o : Oper) {r r' : ROp} (h : r.guard = r'.guard) : readsOf o r = readsOf o r' := by simp only [readsOf, h]

theorem sched_ok {ops : Array Oper} {rs : List ROp} (hrs : ropsOf P N ops ops.toList = some rs) {l : List Nat} {L0 : List (Nat × ROp)} (hl : getAll rs l = some L0)
  (hb : schedB ops (ancM ops.toList []) L0 = true) : SchedOk P N ops (deco (ancM ops.toList []) L0) := by
 obtain ⟨hlen, hrok⟩ := ropsOf_ok _ _ hrs
 have hlen' : rs.length = ops.size := by simpa using hlen
 simp only [schedB, Bool.and_eq_true, List.all_eq_true, List.mem_range] at hb
 obtain ⟨⟨hall, hpairs⟩, hback⟩ := hb
 have get : ∀ (p : Nat) (z : Nat × ROp), (deco (ancM ops.toList []) L0)[p]? = some z → ∃ z0, L0[p]? = some z0 ∧ z = decoOne (ancM ops.toList []) (L0.take p) z0 := by
  intro p z hz
  simp only [deco, List.getElem?_mapIdx] at hz
  cases h : L0[p]? with
  | none => simp [h] at hz
  | some z0 =>
   simp only [h, Option.map_some, Option.some.injEq] at hz
   exact ⟨z0, rfl, hz.symm⟩
 have orig : ∀ (p i : Nat) (r : ROp), (deco (ancM ops.toList []) L0)[p]? = some (i, r) → ∃ r0, L0[p]? = some (i, r0) ∧ r.dst = r0.dst ∧ r.guard = r0.guard ∧ r.op = r0.op ∧ (i, r) = decoOne (ancM ops.toList []) (L0.take p) (i, r0) := by
  intro p i r h
  obtain ⟨z0, h1, h2⟩ := get p _ h
  obtain ⟨k1, k2, k3, k4⟩ := decoOne_same (ancM ops.toList []) (L0.take p) z0
  rw [← h2] at k1 k2 k3 k4
  simp only at k1 k2 k3 k4
  obtain ⟨i0, r0⟩ := z0
  simp only at k1 k2 k3 k4
  subst k1
  exact ⟨r0, h1, k2, k3, k4, h2⟩
 have pairs : ∀ (p q : Nat) (x y : Nat × ROp), p < q → L0[p]? = some x → L0[q]? = some y → pairB ops (ancM ops.toList []) x y = true ∧ keepB (ancM ops.toList []) L0 q y = true := by
  intro p q x y hpq hx hy
  have hq : q < L0.length := (List.getElem?_eq_some_iff.1 hy).1
  have := hpairs q hq
  rw [hy] at this
  simp only [Bool.and_eq_true, List.all_eq_true] at this
  refine ⟨this.1 x ?_, this.2⟩
  rw [List.mem_iff_getElem?]
  exact ⟨p, by rw [List.getElem?_take, if_pos hpq]; exact hx⟩
 have anyop : ∀ (p i : Nat) (r0 : ROp), L0[p]? = some (i, r0) → ∃ o, ops[i]? = some o ∧ ROk P N ops o r0 := by
  intro p i r0 h
  have hr := getAll_ok l L0 hl p i r0 h
  have hi : i < ops.size := by rw [← hlen']; exact (List.getElem?_eq_some_iff.1 hr).1
  exact ⟨ops[i], by simp [hi], hrok i ops[i] r0 (by simp [hi]) hr⟩
 refine ⟨?_, ?_, ?_, ?_, ?_, ?_⟩
 ·intro p i r h
  obtain ⟨r0, h1, k1, k2, k3, _⟩ := orig p i r h
  obtain ⟨o, ho, hok⟩ := anyop p i r0 h1
  refine ⟨o, ho, by rw [k1]; exact hok.dst, by rw [k1]; exact hok.lt, by rw [k3]; exact hok.op, by rw [k2]; exact hok.guard⟩
 ·intro i hi
  have := hall i hi
  rw [List.any_eq_true] at this
  obtain ⟨x, hx, hxi⟩ := this
  obtain ⟨p, hp⟩ := List.mem_iff_getElem?.1 hx
  have hxi' : x.1 = i := by simpa using hxi
  obtain ⟨k1, _⟩ := decoOne_same (ancM ops.toList []) (L0.take p) x
  refine ⟨p, (decoOne (ancM ops.toList []) (L0.take p) x).2, ?_⟩
  simp only [deco, List.getElem?_mapIdx, hp, Option.map_some]
  rw [← hxi', ← k1]
 ·intro p q i r r' h1 h2
  obtain ⟨r0, m1, _⟩ := orig p i r h1
  obtain ⟨r1, m2, _⟩ := orig q i r' h2
  rcases Nat.lt_trichotomy p q with hlt | heq | hlt
  ·have := (pairs p q _ _ hlt m1 m2).1
   simp [pairB] at this
  ·exact heq
  ·have := (pairs q p _ _ hlt m2 m1).1
   simp [pairB] at this
 ·intro p q i j x y ox oy hpq h1 h2 hox hoy
  obtain ⟨x0, m1, a1, a2, a3, a4⟩ := orig p i x h1
  obtain ⟨y0, m2, b1, b2, b3, b4⟩ := orig q j y h2
  obtain ⟨hp, hk⟩ := pairs p q _ _ hpq m1 m2
  simp only [pairB, Bool.and_eq_true, hox, hoy] at hp
  obtain ⟨⟨_, hap⟩, hrest⟩ := hp
  have hfree : bit ((ancM ops.toList []).getD j 0) i = false → (!x0.op.isHeavy) = true ∧ notIn x0.dst (readsOf oy y0) = true ∧ notIn y0.dst (readsOf ox x0) = true := by
   intro h
   rw [h] at hrest
   simpa [Bool.and_eq_true] using hrest
  have hmem : ∀ l, x.op = .light l → l.readsHeap = true → bit ((ancM ops.toList []).getD j 0) i = false → l ∈ readers (ancM ops.toList []) j (L0.take q) := by
   intro l hxl hrd hb
   simp only [readers, List.mem_filterMap]
   refine ⟨(i, x0), ?_, ?_⟩
   ·rw [List.mem_iff_getElem?]
    exact ⟨p, by rw [List.getElem?_take, if_pos hpq]; exact m1⟩
   ·rw [a3] at hxl
    simp only [hxl, hrd, hb, Bool.not_false, Bool.and_self, if_true]
  refine ⟨?_, ?_, ?_, ?_, ?_, ?_⟩
  ·intro d hd hd'
   rw [a1] at hd
   rw [b1] at hd'
   simp only [hd, hd', apart] at hap
   simp at hap
  ·intro h; rw [a3]; simpa using (hfree h).1
  ·intro h d hd
   rw [a1] at hd
   rw [readsOf_same oy b2]
   exact notIn_ok (hfree h).2.1 d hd
  ·intro h d hd
   rw [b1] at hd
   rw [readsOf_same ox a2]
   exact notIn_ok (hfree h).2.2 d hd
  ·intro h l hxl hrd f args hy
   have := hmem l hxl hrd h
   rw [b3] at hy
   simp only [decoOne, hy, Prod.mk.injEq] at b4
   rw [b4.2]
   refine ⟨?_, this⟩
   simp only [Bool.not_eq_true']
   cases hh : readers (ancM ops.toList []) j (L0.take q) with
   | nil => rw [hh] at this; cases this
   | cons _ _ => rfl
  ·intro h l hxl hrd hh hy
   have := hmem l hxl hrd h
   rw [b3] at hy
   simp only [decoOne, hy, Prod.mk.injEq] at b4
   rw [b4.2]
   exact this
 ·intro p q z i j k x y u l hpz hzq h1 h2 h3 hxl hrd hy hb d hd
  obtain ⟨x0, m1, a1, a2, a3, a4⟩ := orig p i x h1
  obtain ⟨y0, m2, b1, b2, b3, b4⟩ := orig q j y h2
  obtain ⟨u0, m3, c1, _⟩ := orig z k u h3
  have hk := (pairs p q _ _ (by omega) m1 m2).2
  rw [b3] at hy
  rw [a3] at hxl
  simp only [keepB, hy, List.all_eq_true, List.mem_range] at hk
  have := hk p (by omega)
  rw [m1] at this
  simp only [hxl, hrd, hb, Bool.not_true, Bool.false_or, List.all_eq_true] at this
  refine notIn_ok (this (k, u0) ?_) d (by rw [← c1]; exact hd)
  rw [List.mem_iff_getElem?]
  refine ⟨z - p, ?_⟩
  rw [List.getElem?_drop, List.getElem?_take, if_pos (by omega), show p + (z - p) = z by omega]
  exact m3
 ·intro i o ho e he hbd
  have := backB_ok ops.toList 0 hback i o (by simpa using ho) e he hbd
  omega

end
end Go.Proofs.YtnphhelbianjpaaGreatDoor.V
namespace Go.Proofs.YtnphhelbianjpaaGreatDoor.V
open Go Go.RowKit

inductive S where
 | nop
 | seq (a b : S)
 | cond (c : Operand) (a b : S)
 | block (id : Nat) (a : S)
 | loop (a : S)
 | exit (id : Nat)
 | ret
 | reg (rs : List ROp)

structure FS where
 params : Nat
 body : S
 results : List (Nat × Option (Nat × Bool))

section
variable (P : Program) (w0 : World)

def bool? : Value → Option Bool
 | .bool b => some b
 | _ => none

def thenE (K : Env → St → Prop) (Q : Exit → Env → St → Prop) : Exit → Env → St → Prop
 | .normal, env, st => K env st
 | e, env, st => Q e env st

def inBlockE (id : Nat) (Q : Exit → Env → St → Prop) : Exit → Env → St → Prop
 | .exit id', env, st => if id' = id then Q .normal env st else Q (.exit id') env st
 | e, env, st => Q e env st

def iterS (f : (Exit → Env → St → Prop) → Env → St → Prop) (Q : Exit → Env → St → Prop) : Nat → Env → St → Prop
 | 0, _, _ => False
 | n + 1, env, st => f (thenE (iterS f Q n) Q) env st

def wpS : S → (Exit → Env → St → Prop) → Env → St → Prop
 | .nop, Q, env, st => Q .normal env st
 | .seq a b, Q, env, st => wpS a (thenE (wpS b Q) Q) env st
 | .cond c a b, Q, env, st => guardV ((evalO env c).bind bool?) (wpS a Q env st) (wpS b Q env st)
 | .block id a, Q, env, st => wpS a (inBlockE id Q) env st
 | .loop a, Q, env, st => ∃ n, iterS (wpS a) Q n env st
 | .exit id, Q, env, st => Q (.exit id) env st
 | .ret, Q, env, st => Q .ret env st
 | .reg rs, Q, env, st => wpR P w0 rs (Q .normal) env st

def resOne (env : Env) (st : St) : Nat × Option (Nat × Bool) → Option Value
 | (t, none) => env.lookup t
 | (t, some (n, agg)) => match env.lookup t with
  | some (.pointer (some a)) => match cellsAt w0 st a n with
   | some cs => partOf agg cs
   | none => none
  | _ => none

def resAll (env : Env) (st : St) : List (Nat × Option (Nat × Bool)) → Option (List Value)
 | [] => some []
 | r :: rs => match resOne w0 env st r, resAll env st rs with
  | some v, some l => some (v :: l)
  | _, _ => none

def resV : List Value → Value
 | [v] => v
 | vs => .tuple vs.toArray

def retQ (rs : List (Nat × Option (Nat × Bool))) (Q : Value → St → Prop) : Exit → Env → St → Prop
 | .normal, env, st | .ret, env, st => match resAll w0 env st rs with
  | some vs => Q (resV vs) st
  | none => False
 | _, _, _ => False

def argEnv : Nat → List Value → Env
 | _, [] => []
 | i, v :: r => (i, v) :: argEnv (i + 1) r

def comp (N : Nat) : Code → Option S
 | .skip => some .nop
 | .region _ ops draw => (cregion P N ops draw).map .reg
 | .seq a b => match comp N a, comp N b with
  | some a, some b => some (.seq a b)
  | _, _ => none
 | .cond c a b => match comp N a, comp N b with
  | some a, some b => some (.cond c a b)
  | _, _ => none
 | .block id a => (comp N a).map (.block id)
 | .loop a => (comp N a).map .loop
 | .exit id => some (.exit id)
 | .ret => some .ret
 | _ => none

def compR : List ResultVar → Option (List (Nat × Option (Nat × Bool)))
 | [] => some []
 | .tmp t :: r => (compR r).map ((t, none) :: ·)
 | .cell a t :: r => match tyAgg P t, compR r with
  | some (b, n), some l => some ((a, some (if b then n else 1, b)) :: l)
  | _, _ => none

def compF (fn : Func) : Option FS :=
 match fn.body with
 | some c => match comp P fn.ntmps c, compR P fn.results.toList with
  | some s, some r => if fn.params.size + fn.nfree ≤ fn.ntmps then some ⟨fn.params.size + fn.nfree, s, r⟩ else none
  | _, _ => none
 | none => none

variable {P w0} {N : Nat}

def Wp (P : Program) (w0 : World) (N : Nat) (c : Code) (Q : Exit → Env → St → Prop) (env : Env) (st : St) : Prop :=
 ∀ (μ : Mp) (w : World) (a : Act), Sim P w0 μ st w → EnvRel P w0.heap.size N μ env a.tmps → a.defers = [] →
  c.wp P (fun e a' w' => Goes P w0 N (Q e) μ st a' w') a w

theorem mixed (hm : P.follows .mixedOrders = true) {c : Code} {s : S} (hc : comp P N c = some s) {Q : Exit → Env → St → Prop} {env : Env} {st : St} (h : wpS P w0 s Q env st) : Wp P w0 N c Q env st := by
 induction c generalizing s Q env st with
 | skip =>
  cases hc
  intro μ w a hs he hd
  exact wp_skip ⟨env, st, μ, h, hs, he, hd, Ext.refl _, Keep.refl _ _⟩
 | ret =>
  cases hc
  intro μ w a hs he hd
  exact wp_ret ⟨env, st, μ, h, hs, he, hd, Ext.refl _, Keep.refl _ _⟩
 | exit id =>
  cases hc
  intro μ w a hs he hd
  exact wp_exit ⟨env, st, μ, h, hs, he, hd, Ext.refl _, Keep.refl _ _⟩
 | region id ops draw =>
  simp only [comp] at hc
  cases hr : cregion P N ops draw with
  | none => simp [hr] at hc
  | some rs =>
   simp only [hr, Option.map_some, Option.some.injEq] at hc
   subst hc
   intro μ w a hs he hd
   simp only [wpS] at h
   unfold cregion at hr
   split at hr
   ·cases hr
   ·rename_i rs0 hrs0
    cases draw with
    | false =>
     simp only [Bool.false_eq_true, if_false, Option.some.injEq] at hr
     subst hr
     obtain ⟨hlen, hok⟩ := ropsOf_ok _ _ hrs0
     refine wp_region ?_
     refine region_text (List.range ops.size) rs0 μ st env a w ?_ h hs he hd (fun a' w' hg => hg)
     have hlen' : rs0.length = ops.size := by simpa using hlen
     have key : ∀ (k : Nat) (l : List ROp), l.length = ops.size - k → k ≤ ops.size → (∀ j r, l[j]? = some r → rs0[k + j]? = some r) →
       All2 (fun i r => ∃ o, ops[i]? = some o ∧ ROk P N ops o r) (List.range' k (ops.size - k)) l := by
      intro k l
      induction l generalizing k with
      | nil => intro hl hk _; rw [← hl]; exact .nil
      | cons r l ih =>
       intro hl hk hj
       have hlt : k < ops.size := by simp at hl; omega
       rw [show ops.size - k = (ops.size - (k + 1)) + 1 by omega, List.range'_succ]
       refine .cons ?_ ?_
       ·exact ⟨ops[k], by simp [hlt], hok k ops[k] r (by simp [hlt]) (by simpa using hj 0 r rfl)⟩
       ·refine ih (k + 1) (by simp at hl; omega) hlt ?_
        intro j r' hr'
        have := hj (j + 1) r' (by simpa using hr')
        rw [show k + 1 + j = k + (j + 1) by omega]; exact this
     have := key 0 rs0 (by simpa using hlen') (Nat.zero_le _) (by simp)
     simpa [List.range_eq_range'] using this
    | true =>
     simp only [if_true] at hr
     split at hr
     ·rename_i L hL
      split at hr
      ·rename_i hb
       cases hr
       exact region_drawn (sched_ok hrs0 hL hb) hm h hs he hd (fun a' w' hg => hg)
      ·cases hr
     ·cases hr
 | seq a b iha ihb =>
  simp only [comp] at hc
  split at hc
  ·rename_i sa sb ha hb
   cases hc
   intro μ w act hs he hd
   simp only [wpS] at h
   refine wp_seq (wp_mono (iha ha h μ w act hs he hd) ?_)
   rintro e a' w' ⟨env', st', μ', hq, hs', he', hd', hext, hkeep⟩
   cases e with
   | normal =>
    refine wp_mono (ihb hb hq μ' w' a' hs' he' hd') ?_
    intro e a'' w'' hg
    exact hg.pre hext hkeep
   | _ => exact ⟨env', st', μ', hq, hs', he', hd', hext, hkeep⟩
  ·cases hc
 | cond c a b iha ihb =>
  simp only [comp] at hc
  split at hc
  ·rename_i sa sb ha hb
   cases hc
   intro μ w act hs he hd
   simp only [wpS] at h
   cases hcv : evalO env c with
   | none => rw [hcv] at h; exact h.elim
   | some u =>
    rw [hcv] at h
    cases u with
    | bool t =>
     cases t with
     | true => exact wp_cond_true (he.eval hcv).bool_eq (iha ha (h.1 rfl) μ w act hs he hd)
     | false => exact wp_cond_false (he.eval hcv).bool_eq (ihb hb (h.2 rfl) μ w act hs he hd)
    | _ => exact h.elim
  ·cases hc
 | block id a ih =>
  simp only [comp] at hc
  cases ha : comp P N a with
  | none => simp [ha] at hc
  | some sa =>
   simp only [ha, Option.map_some, Option.some.injEq] at hc
   subst hc
   intro μ w act hs he hd
   simp only [wpS] at h
   refine wp_block (wp_mono (ih ha h μ w act hs he hd) ?_)
   rintro e a' w' ⟨env', st', μ', hq, rest⟩
   cases e with
   | exit id' =>
    simp only [Exit.inBlock]
    simp only [inBlockE] at hq
    split
    ·rename_i e; rw [if_pos e] at hq; exact ⟨env', st', μ', hq, rest⟩
    ·rename_i e; rw [if_neg e] at hq; exact ⟨env', st', μ', hq, rest⟩
   | _ => exact ⟨env', st', μ', hq, rest⟩
 | loop a ih =>
  simp only [comp] at hc
  cases ha : comp P N a with
  | none => simp [ha] at hc
  | some sa =>
   simp only [ha, Option.map_some, Option.some.injEq] at hc
   subst hc
   intro μ w act hs he hd
   simp only [wpS] at h
   obtain ⟨n, hn⟩ := h
   refine wp_loop_ghost (fun n a' w' => Goes P w0 N (iterS (wpS P w0 sa) Q n) μ st a' w') n ⟨env, st, μ, hn, hs, he, hd, Ext.refl _, Keep.refl _ _⟩ ?_
   rintro n a' w' ⟨env', st', μ', hq, hs', he', hd', hext, hkeep⟩
   cases n with
   | zero => exact hq.elim
   | succ n =>
    simp only [iterS] at hq
    refine wp_mono (ih ha hq μ' w' a' hs' he' hd') ?_
    intro e a'' w'' hg
    have hg := hg.pre hext hkeep
    cases e with
    | normal => exact ⟨n, Nat.lt_succ_self _, hg⟩
    | _ => exact hg
 | _ => simp [comp] at hc

theorem argEnv_lookup : ∀ (args : List Value) (i t : Nat), (argEnv i args).lookup t = if i ≤ t then args[t - i]? else none := by
 intro args
 induction args with
 | nil => intro i t; simp [argEnv]
 | cons v args ih =>
  intro i t
  simp only [argEnv, lookup_cons]
  by_cases e : t = i
  ·subst e; simp
  ·rw [if_neg e, ih]
   by_cases h : i ≤ t
   ·rw [if_pos (by omega), if_pos h, show t - i = (t - (i + 1)) + 1 by omega]; simp
   ·rw [if_neg (by omega), if_neg h]

theorem resAll_sound {μ : Mp} {st : St} {w : World} (hs : Sim P w0 μ st w) {env : Env} {tmps : Array Value} (he : EnvRel P w0.heap.size N μ env tmps) :
  ∀ (rv : List ResultVar) (rs : List (Nat × Option (Nat × Bool))) (vs : List Value), compR P rv = some rs → resAll w0 env st rs = some vs →
  ∃ vs', (rv.mapM (fun | .tmp t => pure (tmps.getD t undef) | .cell a t => do loadVar t (← asAddr (tmps.getD a undef)) : ResultVar → Sem Value)).run P w = .ok vs' w ∧
   RelArgs P w0.heap.size μ vs vs' := by
 intro rv
 induction rv with
 | nil =>
  intro rs vs hc hr
  cases hc; cases hr
  exact ⟨[], rfl, rfl, by simp⟩
 | cons r rv ih =>
  intro rs vs hc hr
  have fin : ∀ (x : Nat × Option (Nat × Bool)) (rs' : List (Nat × Option (Nat × Bool))), rs = x :: rs' → compR P rv = some rs' →
    (∀ v, resOne w0 env st x = some v → ∃ v', ((match r with | .tmp t => pure (tmps.getD t undef) | .cell a t => do loadVar t (← asAddr (tmps.getD a undef))) : Sem Value).run P w = .ok v' w ∧ VRel P w0.heap.size μ v v') →
    ∃ vs', ((r :: rv).mapM (fun | .tmp t => pure (tmps.getD t undef) | .cell a t => do loadVar t (← asAddr (tmps.getD a undef)) : ResultVar → Sem Value)).run P w = .ok vs' w ∧ RelArgs P w0.heap.size μ vs vs' := by
   intro x rs' hrs hrv hone
   subst hrs
   simp only [resAll] at hr
   split at hr
   ·rename_i v l h1 h2
    cases hr
    obtain ⟨v', k1, k2⟩ := hone v h1
    obtain ⟨vs', k3, k4⟩ := ih rs' l hrv h2
    refine ⟨v' :: vs', ?_, by simp [k4.len], ?_⟩
    ·simp only [List.mapM_cons, Sem.run_bind, Sem.run_pure]
     rw [k1]
     simp only [Result.andThen_ok, k3]
    ·intro j a b ha hb
     cases j with
     | zero => simp at ha hb; subst ha; subst hb; exact k2
     | succ j => exact k4.rel j a b (by simpa using ha) (by simpa using hb)
   ·cases hr
  cases r with
  | tmp t =>
   simp only [compR] at hc
   cases hrv : compR P rv with
   | none => simp [hrv] at hc
   | some rs' =>
    simp only [hrv, Option.map_some, Option.some.injEq] at hc
    refine fin _ _ hc.symm hrv ?_
    intro v hv
    simp only [resOne] at hv
    obtain ⟨v', h1, h2⟩ := he.rel t v hv
    exact ⟨v', by simp [Array.getD_eq_getD_getElem?, h1], h2⟩
  | cell ad t =>
   simp only [compR] at hc
   split at hc
   ·rename_i b n l ht hl
    cases hc
    refine fin _ _ rfl hl ?_
    intro v hv
    simp only [resOne] at hv
    split at hv
    ·rename_i a0 ha0
     split at hv
     ·rename_i cs hcs
      obtain ⟨v', h1, h2⟩ := he.rel ad _ ha0
      have e1 : tmps.getD ad undef = v' := by simp [Array.getD_eq_getD_getElem?, h1]
      obtain ⟨u, hrun, hrel⟩ := load_part hs h2 ht hcs hv
      obtain ⟨a', rfl⟩ : ∃ a', v' = .pointer (some a') := by
       rcases h2.ptr_inv with ⟨rfl, _⟩ | ⟨m, _, _, rfl⟩ <;> exact ⟨_, rfl⟩
      refine ⟨u, ?_, hrel⟩
      simp only [e1, asAddr, pure_bind]
      simpa [Instr.loadAt, Instr.sureAddr] using hrun
     ·cases hv
    ·cases hv
   ·cases hc

theorem DCalls.of (hm : P.follows .mixedOrders = true) {f : FuncId} {fn : Func} (hf : P.funcs[f]? = some fn) (hname : (fn.name == "runtime.NumGoroutine") = false) {fs : FS} (hc : compF P fn = some fs)
  {args : List Value} (hl : args.length = fs.params) {st : St} {Q : Value → St → Prop} (h : wpS P w0 fs.body (retQ w0 fs.results Q) (argEnv 0 args) st) : DCalls P w0 f args st Q := by
 unfold compF at hc
 split at hc
 ·rename_i c hbody
  split at hc
  ·rename_i s r hs hr
   split at hc
   ·rename_i hpar
    cases hc
    refine ⟨⟨fn, hf, by rw [hbody]; rfl, hname⟩, ?_⟩
    intro μ w args' hsim hrel
    refine calls_of_wp hf hbody ?_
    have hlen : args'.toArray.size = args.length := by simp [hrel.len]
    have hle : args.length ≤ fn.ntmps := by rw [hl]; exact hpar
    have henv : EnvRel P w0.heap.size fn.ntmps μ (argEnv 0 args) (args'.toArray ++ Array.replicate (fn.ntmps - args'.toArray.size) undef) := by
     refine ⟨by simp at hlen ⊢; omega, ?_⟩
     intro t v ht
     rw [argEnv_lookup] at ht
     simp only [Nat.zero_le, if_true, Nat.sub_zero] at ht
     have hlt : t < args'.length := by rw [← hrel.len]; exact (List.getElem?_eq_some_iff.1 ht).1
     refine ⟨args'[t], ?_, hrel.rel t v _ ht (by simp [hlt])⟩
     rw [Array.getElem?_append_left (by simpa using hlt)]
     simp [hlt]
    refine wp_mono (mixed hm hs h μ w _ hsim henv rfl) ?_
    rintro e a w' ⟨env', st', μ', hq, hs', he', hd', hext, hkeep⟩
    have fin : (match resAll w0 env' st' r with | some vs => Q (resV vs) st' | none => False) → a.defers = [] ∧ ∃ v, (results fn a.tmps).run P w' = .ok v w' ∧
      ∃ v0 v' st'' μ'', Ending.returned v = .returned v' ∧ VRel P w0.heap.size μ'' v0 v' ∧ Q v0 st'' ∧ Sim P w0 μ'' st'' w' ∧ Ext μ μ'' ∧ Keep μ st μ'' st'' := by
     intro hres
     refine ⟨hd', ?_⟩
     split at hres
     ·rename_i vs hvs
      obtain ⟨vs', k1, k2⟩ := resAll_sound hs' he' fn.results.toList r vs hr hvs
      have hm : (fn.results.mapM (fun | .tmp t => pure (a.tmps.getD t undef) | .cell ad t => do loadVar t (← asAddr (a.tmps.getD ad undef)) : ResultVar → Sem Value)).run P w' = .ok vs'.toArray w' := by
       rw [Array.mapM_eq_mapM_toList]
       simp only [Sem.run_map]
       rw [k1]; rfl
      refine ⟨if h : vs'.toArray.size = 1 then vs'.toArray[0] else .tuple vs'.toArray, ?_, resV vs, _, st', μ', rfl, ?_, hres, hs', hext, hkeep⟩
      ·unfold results
       rw [Sem.run_bind]
       exact Eq.trans (congrArg (fun (r : Result (Array Value)) => r.andThen (fun (vs : Array Value) w' => Sem.run P (pure (if h : vs.size = 1 then vs[0] else Value.tuple vs)) w')) hm) rfl
      ·match vs, vs', k2 with
       | [], vs', k2 =>
        have : vs' = [] := by have := k2.len; simp at this; exact List.length_eq_zero_iff.1 this.symm
        subst this
        exact VRel.undef
       | [v], vs', k2 =>
        match vs', k2 with
        | [v'], k2 => exact k2.rel 0 v v' rfl rfl
        | [], k2 => have := k2.len; simp at this
        | _ :: _ :: _, k2 => have := k2.len; simp at this
       | v1 :: v2 :: vs, vs', k2 =>
        have hne : ¬ vs'.toArray.size = 1 := by have := k2.len; simp at this ⊢; omega
        rw [dif_neg hne]
        simp only [resV]
        exact .tuple _ _ (by simpa using k2.len) (fun i x y hx hy => k2.rel i x y (by simpa using hx) (by simpa using hy))
     ·exact hres.elim
    cases e with
    | normal => exact fin hq
    | ret => exact fin hq
    | _ => exact hq.elim
   ·cases hc
  ·cases hc
 ·cases hc

end
end Go.Proofs.YtnphhelbianjpaaGreatDoor.V
namespace Go.Proofs.YtnphhelbianjpaaGreatDoor.V
open Go Go.RowKit

def bs (l : List Nat) : ByteArray := ⟨(l.map UInt8.ofNat).toArray⟩

structure Ok (w0 : World) (st : St) : Prop where
 next : w0.heap.size ≤ st.next
 hi : ∀ b, b < w0.heap.size → st.blk b = none
 fresh : ∀ b, st.next ≤ b → st.blk b = none

section
variable {P : Program} {w0 : World}

theorem Sim.ok {μ : Mp} {st : St} {w : World} (h : Sim P w0 μ st w) : Ok w0 st := ⟨h.next, h.hi, fun b hb => (h.fresh b hb).2⟩

theorem DCalls.mono' {f : FuncId} {args : List Value} {st : St} {Q Q' : Value → St → Prop} (h : DCalls P w0 f args st Q) (hq : ∀ v st', Q v st' → Ok w0 st' → st.next ≤ st'.next → Q' v st') : DCalls P w0 f args st Q' :=
 ⟨h.1, fun μ w args' hs hr => (h.2 μ w args' hs hr).mono fun e w' ⟨v, v', st', μ', h1, h2, h3, h4, h5, h6⟩ => ⟨v, v', st', μ', h1, h2, hq _ _ h3 h4.ok h6.next, h4, h5, h6⟩⟩

theorem DCalls.given {f : FuncId} {args : List Value} {st : St} {Q : Value → St → Prop} (hE : Enters P f) (h : Ok w0 st → DCalls P w0 f args st Q) : DCalls P w0 f args st Q :=
 ⟨hE, fun μ w args' hs hr => (h hs.ok).2 μ w args' hs hr⟩

theorem Ok.lt {st : St} (h : Ok w0 st) {b : Nat} {bk : Blk} (hb : st.blk b = some bk) : b < st.next ∧ w0.heap.size ≤ b := by
 constructor
 ·rcases Nat.lt_or_ge b st.next with h' | h'
  ·exact h'
  ·rw [h.fresh b h'] at hb; cases hb
 ·rcases Nat.lt_or_ge b w0.heap.size with h' | h'
  ·rw [h.hi b h'] at hb; cases hb
  ·exact h'

theorem Ok.alloc {st : St} (h : Ok w0 st) (bk : Blk) : Ok w0 (st.alloc bk) := by
 refine ⟨Nat.le_succ_of_le h.next, ?_, ?_⟩
 ·intro b hb
  have := h.next
  simp only [St.alloc]; rw [if_neg (by omega)]; exact h.hi b hb
 ·intro b hb
  have hb' : st.next + 1 ≤ b := hb
  simp only [St.alloc]; rw [if_neg (by omega)]; exact h.fresh b (by omega)

theorem Ok.set {st : St} (h : Ok w0 st) {b : Nat} {bk0 : Blk} (hb : st.blk b = some bk0) (bk : Blk) : Ok w0 (st.set b bk) := by
 have hlt := h.lt hb
 refine ⟨h.next, ?_, ?_⟩
 ·intro i hi
  simp only [St.set]; rw [if_neg (by omega)]; exact h.hi i hi
 ·intro i hi
  have hi' : st.next ≤ i := hi
  simp only [St.set]; rw [if_neg (by omega)]; exact h.fresh i hi'

theorem alloc_eq (st : St) (b : Blk) : (st.alloc b).blk st.next = some b := by simp [St.alloc]
theorem alloc_ne (st : St) (b : Blk) {i : Nat} (h : i ≠ st.next) : (st.alloc b).blk i = st.blk i := by simp [St.alloc, h]
theorem set_eq (st : St) (i : Nat) (b : Blk) : (st.set i b).blk i = some b := by simp [St.set]
theorem set_ne (st : St) {i j : Nat} (b : Blk) (h : j ≠ i) : (st.set i b).blk j = st.blk j := by simp [St.set, h]
theorem kill_ne (st : St) {i j : Nat} (h : j ≠ i) : (st.kill i).blk j = st.blk j := by simp [St.kill, h]

theorem wq_cond {c : Operand} {a b : S} {Q : Exit → Env → St → Prop} {env : Env} {st : St} {t : Bool} (hc : evalO env c = some (.bool t)) (h1 : t = true → wpS P w0 a Q env st) (h2 : t = false → wpS P w0 b Q env st) :
  wpS P w0 (.cond c a b) Q env st := by
 simp only [wpS, hc, Option.bind_some, bool?, guardV]; exact ⟨h1, h2⟩
theorem step_mono {c : COp} {q : Bool} {ks : List LOp} {env : Env} {st : St} {k k' : Value → St → Prop} (hk : ∀ v st, k v st → k' v st) (h : c.step P w0 q ks env st k) : c.step P w0 q ks env st k' := by
 cases c with
 | light l =>
  simp only [COp.step] at h ⊢
  split at h
  ·exact hk _ _ h
  ·exact h
 | alloc A =>
  simp only [COp.step] at h ⊢
  split at h
  ·exact hk _ _ h
  ·exact h
 | heavy hh =>
  simp only [COp.step] at h ⊢
  split at h
  ·exact ⟨h.1, hk _ _ h.2⟩
  ·exact h
 | call f args =>
  simp only [COp.step] at h ⊢
  split at h
  ·exact DCalls.mono h fun v st' hq => ⟨hq.1, hk _ _ hq.2⟩
  ·exact h

theorem guardV_mono {o : Option Bool} {A B A' B' : Prop} (ha : A → A') (hb : B → B') (h : guardV o A B) : guardV o A' B' := by
 cases o with
 | none => exact h
 | some b => exact ⟨fun e => ha (h.1 e), fun e => hb (h.2 e)⟩

theorem wpR_mono {K K' : Env → St → Prop} (hk : ∀ env st, K env st → K' env st) : ∀ (rs : List ROp) (env : Env) (st : St), wpR P w0 rs K env st → wpR P w0 rs K' env st := by
 intro rs
 induction rs with
 | nil => intro env st h; exact hk _ _ h
 | cons r rs ih =>
  intro env st h
  simp only [wpR] at h ⊢
  exact guardV_mono (step_mono fun v st' hq => ih _ _ hq) (ih _ _) h

theorem iterS_mono {f : (Exit → Env → St → Prop) → Env → St → Prop} (hf : ∀ Q Q' : Exit → Env → St → Prop, (∀ e env st, Q e env st → Q' e env st) → ∀ env st, f Q env st → f Q' env st) {Q Q' : Exit → Env → St → Prop}
  (hq : ∀ e env st, Q e env st → Q' e env st) : ∀ n env st, iterS f Q n env st → iterS f Q' n env st := by
 intro n
 induction n with
 | zero => intro env st h; exact h
 | succ n ih =>
  intro env st h
  simp only [iterS] at h ⊢
  refine hf _ _ ?_ env st h
  intro e env' st' he
  cases e with
  | normal => exact ih env' st' he
  | _ => exact hq _ _ _ he

theorem thenE_mono {K K' : Env → St → Prop} {Q Q' : Exit → Env → St → Prop} (hk : ∀ env st, K env st → K' env st) (hq : ∀ e env st, Q e env st → Q' e env st) : ∀ e env st, thenE K Q e env st → thenE K' Q' e env st := by
 intro e env st h
 cases e with
 | normal => exact hk _ _ h
 | _ => exact hq _ _ _ h

theorem wpS_mono (s : S) : ∀ Q Q' : Exit → Env → St → Prop, (∀ e env st, Q e env st → Q' e env st) → ∀ env st, wpS P w0 s Q env st → wpS P w0 s Q' env st := by
 induction s with
 | nop => intro Q Q' hq env st h; exact hq _ _ _ h
 | ret => intro Q Q' hq env st h; exact hq _ _ _ h
 | exit i => intro Q Q' hq env st h; exact hq _ _ _ h
 | reg rs => intro Q Q' hq env st h; exact wpR_mono (hq .normal) rs env st h
 | seq a b iha ihb => intro Q Q' hq env st h; exact iha _ _ (thenE_mono (ihb Q Q' hq) hq) env st h
 | cond c a b iha ihb => intro Q Q' hq env st h; exact guardV_mono (iha Q Q' hq env st) (ihb Q Q' hq env st) h
 | block i a ih =>
  intro Q Q' hq env st h
  refine ih _ _ ?_ env st h
  intro e env' st' he
  cases e with
  | exit j =>
   simp only [inBlockE] at he ⊢
   split
   ·rename_i e; rw [if_pos e] at he; exact hq _ _ _ he
   ·rename_i e; rw [if_neg e] at he; exact hq _ _ _ he
  | _ => exact hq _ _ _ he
 | loop a ih =>
  intro Q Q' hq env st h
  obtain ⟨n, hn⟩ := h
  exact ⟨n, iterS_mono ih hq n env st hn⟩

theorem wq_loop {a : S} {Q : Exit → Env → St → Prop} {env : Env} {st : St} (I : Nat → Env → St → Prop) (n : Nat) (h0 : I n env st)
  (h : ∀ n env st, I n env st → wpS P w0 a (thenE (fun env' st' => ∃ m, m < n ∧ I m env' st') Q) env st) :
  wpS P w0 (.loop a) Q env st := by
 have key : ∀ k n, n < k → ∀ env st, I n env st → iterS (wpS P w0 a) Q k env st := by
  intro k
  induction k with
  | zero => intro n hn; omega
  | succ k ih =>
   intro n hn env st hI
   simp only [iterS]
   refine wpS_mono a _ _ ?_ env st (h n env st hI)
   intro e env' st' hq
   cases e with
   | normal =>
    obtain ⟨m, hm, hI'⟩ := hq
    exact ih m (by omega) env' st' hI'
   | _ => exact hq
 exact ⟨n + 1, key (n + 1) n (Nat.lt_succ_self _) env st h0⟩

end

section
variable (P : Program) (t : TypeId) (x y : Operand)
theorem bin_eq (op : BinOp) (a b : Value) (r : Value) (h1 : eqGuard op t x y a b = Sem.pure ()) (h2 : binOp op t a b = Sem.pure r) (hr : flatV r = true) :
  pureF P (do eqGuard op t x y a b; binOp op t a b) = some r := by
 rw [h1, h2]
 simp [pureF, pureV, Bind.bind, Sem.bind, hr]

theorem guard_int (op : BinOp) (k : IntKind) (a b : Int) : eqGuard op t x y (.int k a) (.int k b) = Sem.pure () := by
 cases op <;> rfl
theorem guard_str (op : BinOp) (a b : ByteArray) : eqGuard op t x y (.string a) (.string b) = Sem.pure () := by
 cases op <;> rfl
theorem guard_bool (op : BinOp) (a b : Bool) : eqGuard op t x y (.bool a) (.bool b) = Sem.pure () := by
 cases op <;> rfl

theorem bin_add (k : IntKind) (a b : Int) : pureF P (do eqGuard .add t x y (.int k a) (.int k b); binOp .add t (.int k a) (.int k b)) = some (.int k (k.wrap (a + b))) :=
 bin_eq P t x y _ _ _ _ (guard_int ..) (by simp [binOp, Op.intArith]; rfl) rfl
theorem bin_sub (k : IntKind) (a b : Int) : pureF P (do eqGuard .sub t x y (.int k a) (.int k b); binOp .sub t (.int k a) (.int k b)) = some (.int k (k.wrap (a - b))) :=
 bin_eq P t x y _ _ _ _ (guard_int ..) (by simp [binOp, Op.intArith]; rfl) rfl
theorem bin_mul (k : IntKind) (a b : Int) : pureF P (do eqGuard .mul t x y (.int k a) (.int k b); binOp .mul t (.int k a) (.int k b)) = some (.int k (k.wrap (a * b))) :=
 bin_eq P t x y _ _ _ _ (guard_int ..) (by simp [binOp, Op.intArith]; rfl) rfl
theorem bin_rem (k : IntKind) (a b : Int) (h : b ≠ 0) : pureF P (do eqGuard .rem t x y (.int k a) (.int k b); binOp .rem t (.int k a) (.int k b)) = some (.int k (a.tmod b)) :=
 bin_eq P t x y _ _ _ _ (guard_int ..) (by simp [binOp, Op.intDiv, h]; rfl) rfl
theorem bin_quo (k : IntKind) (a b : Int) (h : b ≠ 0) : pureF P (do eqGuard .quo t x y (.int k a) (.int k b); binOp .quo t (.int k a) (.int k b)) = some (.int k (k.wrap (a.tdiv b))) :=
 bin_eq P t x y _ _ _ _ (guard_int ..) (by simp [binOp, Op.intDiv, h]; rfl) rfl
theorem bin_eql (k : IntKind) (a b : Int) : pureF P (do eqGuard .eql t x y (.int k a) (.int k b); binOp .eql t (.int k a) (.int k b)) = some (.bool (decide (a = b))) :=
 bin_eq P t x y _ _ _ _ (guard_int ..) (by simp [binOp, Op.intCmp]; rfl) rfl
theorem bin_neq (k : IntKind) (a b : Int) : pureF P (do eqGuard .neq t x y (.int k a) (.int k b); binOp .neq t (.int k a) (.int k b)) = some (.bool (decide (a ≠ b))) :=
 bin_eq P t x y _ _ _ _ (guard_int ..) (by simp [binOp, Op.intCmp]; rfl) rfl
theorem bin_lss (k : IntKind) (a b : Int) : pureF P (do eqGuard .lss t x y (.int k a) (.int k b); binOp .lss t (.int k a) (.int k b)) = some (.bool (decide (a < b))) :=
 bin_eq P t x y _ _ _ _ (guard_int ..) (by simp [binOp, Op.intCmp]; rfl) rfl
theorem bin_leq (k : IntKind) (a b : Int) : pureF P (do eqGuard .leq t x y (.int k a) (.int k b); binOp .leq t (.int k a) (.int k b)) = some (.bool (decide (a ≤ b))) :=
 bin_eq P t x y _ _ _ _ (guard_int ..) (by simp [binOp, Op.intCmp]; rfl) rfl
theorem bin_gtr (k : IntKind) (a b : Int) : pureF P (do eqGuard .gtr t x y (.int k a) (.int k b); binOp .gtr t (.int k a) (.int k b)) = some (.bool (decide (b < a))) :=
 bin_eq P t x y _ _ _ _ (guard_int ..) (by simp [binOp, Op.intCmp]; rfl) rfl
theorem bin_geq (k : IntKind) (a b : Int) : pureF P (do eqGuard .geq t x y (.int k a) (.int k b); binOp .geq t (.int k a) (.int k b)) = some (.bool (decide (b ≤ a))) :=
 bin_eq P t x y _ _ _ _ (guard_int ..) (by simp [binOp, Op.intCmp]; rfl) rfl
end

theorem w64 {x : Int} (h : -9223372036854775808 ≤ x ∧ x ≤ 9223372036854775807) : IntKind.i64.wrap x = x := IntWalk.i64_in _ h

end Go.Proofs.YtnphhelbianjpaaGreatDoor.V
namespace Go.Proofs.YtnphhelbianjpaaGreatDoor.V
open Go Go.RowKit

section
variable {P : Program} {w0 : World} {K : Env → St → Prop} {env : Env} {st : St} {rest : List ROp} {d : Nat} {q : Bool} {ks : List LOp}

section bins
variable {t : TypeId} {x y : Operand} {a b : Int} {j : IntKind}
theorem same_bytes (a b : ByteArray) : (a.toList == b.toList) = decide (a = b) := by
 rw [ByteArray.toList_eq, ByteArray.toList_eq]
 rw [Bool.eq_iff_iff]
 simp only [beq_iff_eq, decide_eq_true_eq]
 constructor
 ·intro h
  cases a; cases b
  simp only [ByteArray.mk.injEq]
  exact Array.toList_inj.1 h
 ·intro h; rw [h]
theorem bin_seq (a b : ByteArray) : pureF P (do eqGuard .eql t x y (.string a) (.string b); binOp .eql t (.string a) (.string b)) = some (.bool (decide (a = b))) :=
 bin_eq P t x y _ _ _ _ (guard_str ..) (by simp only [binOp, Op.stringOp, same_bytes]; rfl) rfl
theorem bin_sne (a b : ByteArray) : pureF P (do eqGuard .neq t x y (.string a) (.string b); binOp .neq t (.string a) (.string b)) = some (.bool (decide (a ≠ b))) :=
 bin_eq P t x y _ _ _ _ (guard_str ..) (by simp only [binOp, Op.stringOp, same_bytes, decide_not]; rfl) rfl
end bins

section ptrs
variable {x y i : Operand} {b o n c sz : Nat} {a : Addr}
theorem take_one {α : Type} {cs : List α} {o : Nat} {v : α} (h : cs[o]? = some v) : (cs.drop o).take 1 = [v] := by
 obtain ⟨hlt, rfl⟩ := List.getElem?_eq_some_iff.1 h
 rw [List.drop_eq_getElem_cons hlt]; rfl
end ptrs

section news
variable {x : Operand} {nx n : Nat} {ty : TypeId} {cs : List Value}
end news

section ways
variable {c : Operand} {a b : S} {Q : Exit → Env → St → Prop} {p : Prop} [Decidable p]
end ways
end
end Go.Proofs.YtnphhelbianjpaaGreatDoor.V
