/-
  The abstract semantics V: code, regions, loops, calls.
-/
import Derived.Test.YtnphhelbianjpaaGreatDoorVB
import Derived.Orders
set_option linter.all false
set_option linter.unusedSimpArgs false
set_option linter.unusedVariables false
set_option linter.unnecessarySimpa false
namespace Go.Proofs.YtnphhelbianjpaaGreatDoor.V
open Go Go.RowKit

inductive CFn where
 | fn (f : FuncId)
 | val (x : Operand)

inductive COp where
 | light (l : LOp)
 | alloc (a : AOp)
 | heavy (h : HOp)
 | call (f : CFn) (args : List Operand)

structure ROp where
 dst : Option Nat
 guard : Option (Nat × Bool)
 op : COp
 quiet : Bool
 keeps : List LOp

def putE (d : Option Nat) (v : Value) (env : Env) : Env :=
 match d with
 | some d => (d, v) :: env
 | none => env

def guardOf (env : Env) : Option (Nat × Bool) → Option Bool
 | none => some true
 | some (t, want) => match env.lookup t with
  | some (.bool b) => some (b == want)
  | some (.tuple _) => some false
  | _ => none

def evalC (env : Env) : CFn → List Operand → Option (FuncId × List Value)
 | .fn f, args => (evalArgs env args).map fun vs => (f, vs)
 | .val x, args => match evalO env x, evalArgs env args with
  | some (.func (.func f) _ caps), some vs => some (f, vs ++ caps.toList)
  | _, _ => none

section
variable (P : Program) (w0 : World)

def Enters (f : FuncId) : Prop := ∃ fn, P.funcs[f]? = some fn ∧ fn.body.isSome = true ∧ (fn.name == "runtime.NumGoroutine") = false

structure RelArgs (n0 : Nat) (μ : Mp) (xs ys : List Value) : Prop where
 len : xs.length = ys.length
 rel : ∀ (j : Nat) (x y : Value), xs[j]? = some x → ys[j]? = some y → VRel P n0 μ x y

def DCalls (f : FuncId) (args : List Value) (st : St) (Q : Value → St → Prop) : Prop :=
 Enters P f ∧ ∀ (μ : Mp) (w : World) (args' : List Value), Sim P w0 μ st w → RelArgs P w0.heap.size μ args args' →
  Calls P f args'.toArray w fun e w' => ∃ v v' st' μ', e = .returned v' ∧ VRel P w0.heap.size μ' v v' ∧ Q v st' ∧ Sim P w0 μ' st' w' ∧ Ext μ μ' ∧ Keep μ st μ' st'

def COp.step (quiet : Bool) (keeps : List LOp) (env : Env) (st : St) (k : Value → St → Prop) : COp → Prop
 | .light l => match l.eval P w0 env st with
  | some v => k v st
  | none => False
 | .alloc a => match a.eval env with
  | some (bk, mk) => k (mk st.next) (st.alloc bk)
  | none => False
 | .heavy h => match h.eval w0 env st with
  | some (v, st') => (∀ l ∈ keeps, ∀ u, l.eval P w0 env st = some u → l.eval P w0 env st' = some u) ∧ k v st'
  | none => False
 | .call f args => match evalC env f args with
  | some (f, vs) => DCalls P w0 f vs st fun v st' => (quiet = true → st.le st' ∨ ∀ l ∈ keeps, ∀ u, l.eval P w0 env st = some u → l.eval P w0 env st' = some u) ∧ k v st'
  | none => False

def guardV : Option Bool → Prop → Prop → Prop
 | some b, A, B => (b = true → A) ∧ (b = false → B)
 | none, _, _ => False

def wpR : List ROp → (Env → St → Prop) → Env → St → Prop
 | [], K, env, st => K env st
 | r :: rest, K, env, st => guardV (guardOf env r.guard) (r.op.step P w0 r.quiet r.keeps env st fun v st' => wpR rest K (putE r.dst v env) st') (wpR rest K (putE r.dst undef env) st)

def copC : Op → Option COp
 | .call c => match c.callee with
  | .value (.func f) => some (.call (.fn f) c.args.toList)
  | .value x => some (.call (.val x) c.args.toList)
  | _ => none
 | _ => none

def cop (op : Op) : Option COp :=
 match copL P op with
 | some l => some (.light l)
 | none => match copA P op with
  | some a => some (.alloc a)
  | none => match copH P op with
   | some h => some (.heavy h)
   | none => copC op

def COk (o : Oper) : COp → Prop
 | .light l => copL P o.op = some l
 | .alloc a => copA P o.op = some a
 | .heavy h => copH P o.op = some h
 | .call f args => copC o.op = some (.call f args)

variable {P w0}

theorem cop_ok {o : Oper} {c : COp} (h : cop P o.op = some c) : COk P o c := by
 unfold cop at h
 split at h
 ·cases h; assumption
 ·split at h
  ·cases h; assumption
  ·split at h
   ·cases h; assumption
   ·have h' := h
    unfold copC at h
    split at h
    ·split at h
     ·cases h; exact h'
     ·cases h; exact h'
     ·cases h
    ·cases h

theorem DCalls.mono {f : FuncId} {args : List Value} {st : St} {Q Q' : Value → St → Prop} (h : DCalls P w0 f args st Q) (hq : ∀ v st', Q v st' → Q' v st') : DCalls P w0 f args st Q' :=
 ⟨h.1, fun μ w args' hs hr => (h.2 μ w args' hs hr).mono fun e w' ⟨v, v', st', μ', h1, h2, h3, h4⟩ => ⟨v, v', st', μ', h1, h2, hq _ _ h3, h4⟩⟩

theorem evalArgs_rel {μ : Mp} {env : Env} {a : Act} : ∀ (xs : List Operand) (vs : List Value), (∀ x ∈ xs, ∀ u, evalO env x = some u → VRel P w0.heap.size μ u (a.eval x)) → evalArgs env xs = some vs →
  RelArgs P w0.heap.size μ vs (xs.map a.eval) := by
 intro xs
 induction xs with
 | nil => intro vs _ h; cases h; exact ⟨rfl, by simp⟩
 | cons x xs ih =>
  intro vs hr h
  simp only [evalArgs] at h
  cases h1 : evalO env x with
  | none => simp [h1] at h
  | some v =>
   cases h2 : evalArgs env xs with
   | none => simp [h1, h2] at h
   | some l =>
    simp only [h1, h2] at h
    cases h
    have := ih l (fun y hy => hr y (List.mem_cons_of_mem _ hy)) h2
    refine ⟨by simp [this.len], ?_⟩
    intro j a' b' ha hb
    cases j with
    | zero => simp at ha hb; subst ha; subst hb; exact hr x (List.mem_cons_self ..) v h1
    | succ j => exact this.rel j a' b' (by simpa using ha) (by simpa using hb)

def OpRel (P : Program) (n0 : Nat) (μ : Mp) (env : Env) (a : Act) (o : Oper) : Prop := ∀ x ∈ o.op.operands.toList, ∀ u, evalO env x = some u → VRel P n0 μ u (a.eval x)

variable {ops : Array Oper} {Q : Exit → Act → World → Prop} {i : Nat} {o : Oper} {K : Act → World → Prop} {a : Act} {w : World} {μ : Mp} {env : Env} {st : St}

theorem wpOp_skip (ho : ops[i]? = some o) (hw : Region.wanted o (yielded ops a.tmps) = false) (hk : K (a.put o.dst undef) w) : wpOp P ops Q i K a w := by
 simp only [wpOp, ho, hw, Bool.false_eq_true, if_false]; exact hk

theorem wpOp_light (ho : ops[i]? = some o) (hw : Region.wanted o (yielded ops a.tmps) = true) {l : LOp} (hc : copL P o.op = some l) {v : Value} (he : l.eval P w0 env st = some v)
  (hs : Sim P w0 μ st w) (hr : OpRel P w0.heap.size μ env a o) (hk : ∀ v', VRel P w0.heap.size μ v v' → K (a.put o.dst v') w) : wpOp P ops Q i K a w := by
 simp only [wpOp, ho, hw, if_true]
 obtain ⟨v', h1, h2⟩ := light_sound hc he hs hr
 left
 simp only [Oper.wp, h1, Oper.upon_value]
 exact hk v' h2

theorem wpOp_alloc (ho : ops[i]? = some o) (hw : Region.wanted o (yielded ops a.tmps) = true) {A : AOp} (hc : copA P o.op = some A) {bk : Blk} {mk : Nat → Value} (he : A.eval env = some (bk, mk))
  (hr : OpRel P w0.heap.size μ env a o) (hk : ∀ obj v', ObjRel P w0.heap.size μ bk obj → (∀ (μ' : Mp) (b : Nat), μ' b = some (locOf w.heap.size obj) → VRel P w0.heap.size μ' (mk b) v') →
   K (a.put o.dst v') (w.alloc obj)) : wpOp P ops Q i K a w := by
 simp only [wpOp, ho, hw, if_true]
 obtain ⟨obj, v', h1, h2, h3⟩ := alloc_sound (w := w) hc he hr
 left
 simp only [Oper.wp, h1, Oper.upon_value]
 exact hk obj v' h2 h3

theorem wpOp_heavy (ho : ops[i]? = some o) (hw : Region.wanted o (yielded ops a.tmps) = true) {h : HOp} (hc : copH P o.op = some h) {v : Value} {st' : St} (he : h.eval w0 env st = some (v, st'))
  (hs : Sim P w0 μ st w) (hr : OpRel P w0.heap.size μ env a o)
  (hk : ∀ v' w' μ', VRel P w0.heap.size μ' v v' → Sim P w0 μ' st' w' → Ext μ μ' → Keep μ st μ' st' → K (a.put o.dst v') w') : wpOp P ops Q i K a w := by
 simp only [wpOp, ho, hw, if_true]
 obtain ⟨r, v', w', μ', h1, h2, h3, h4, h5, h6⟩ := heavy_sound hc he hs hr
 left
 rcases h2 with rfl | ⟨rfl, rfl⟩
 ·simp only [Oper.wp, h1, Oper.upon_value]
  exact hk v' w' μ' h3 h4 h5 h6
 ·simp only [Oper.wp, h1, Oper.upon_skip]
  exact hk _ w' μ' h3 h4 h5 h6

theorem copC_eq {op : Op} {c : CFn} {args : List Operand} (h : copC op = some (.call c args)) : ∃ x tys, op = .call { callee := .value x, args := args.toArray, argTypes := tys } ∧ (match c with | .fn f => x = .func f | .val y => x = y) := by
 cases op <;> simp only [copC] at h <;> try (cases h; done)
 rename_i c
 obtain ⟨callee, cargs, tys⟩ := c
 simp only at h
 split at h
 ·cases h
  exact ⟨_, tys, rfl, rfl⟩
 ·cases h
  exact ⟨_, tys, rfl, rfl⟩
 ·cases h

theorem VRel.func_inv {n0 : Nat} {μ : Mp} {f : Fn} {first xs : Array Value} {v' : Value} (h : VRel P n0 μ (.func f first xs) v') : ∃ ys, v' = .func f #[] ys ∧ xs.size = ys.size ∧ ∀ (i : Nat) (x y : Value), xs[i]? = some x → ys[i]? = some y → VRel P n0 μ x y := by
 cases h with
 | atom _ h => simp [V.atom] at h
 | func _ _ ys hs hr => exact ⟨ys, rfl, hs, hr⟩

theorem wpOp_call (ho : ops[i]? = some o) (hw : Region.wanted o (yielded ops a.tmps) = true) {c : CFn} {f : FuncId} {args : List Operand} (hc : copC o.op = some (.call c args)) {vs : List Value}
  (he : evalC env c args = some (f, vs)) {QQ : Value → St → Prop} (hd : DCalls P w0 f vs st QQ) (hs : Sim P w0 μ st w) (hr : OpRel P w0.heap.size μ env a o)
  (hk : ∀ v v' w' μ' st', QQ v st' → VRel P w0.heap.size μ' v v' → Sim P w0 μ' st' w' → Ext μ μ' → Keep μ st μ' st' → K (a.put o.dst v') w') : wpOp P ops Q i K a w := by
 simp only [wpOp, ho, hw, if_true]
 left
 obtain ⟨x, tys, hop, hcx⟩ := copC_eq hc
 obtain ⟨fn, hf, hbody, hname⟩ := hd.1
 have hb : fn.body ≠ none := by intro h; rw [h] at hbody; cases hbody
 have hname : fn.name ≠ "runtime.NumGoroutine" := by simpa using hname
 obtain ⟨vs', hargs, hrun⟩ : ∃ vs' : List Value, RelArgs P w0.heap.size μ vs vs' ∧ (execOp a.eval o).run P w = .ok (.enter f vs'.toArray) w := by
  obtain ⟨dst, op, type, pos, after, guard⟩ := o
  simp only at hop
  subst hop
  cases c with
  | fn g =>
   simp only at hcx
   subst hcx
   simp only [evalC] at he
   cases ha : evalArgs env args with
   | none => simp [ha] at he
   | some us =>
    simp only [ha, Option.map_some, Option.some.injEq, Prod.mk.injEq] at he
    obtain ⟨rfl, rfl⟩ := he
    refine ⟨args.map a.eval, evalArgs_rel args _ (fun x hx u hu => hr x (by simp [Op.operands, Call.operands, hx]) u hu) ha, ?_⟩
    simp [execOp, resolve, Deferred.ofValue, Act.eval, invoke, callFunc, hf, hname, hb]
  | val y =>
   simp only at hcx
   subst hcx
   simp only [evalC] at he
   split at he
   ·rename_i g fi caps us h1 h2
    simp only [Option.some.injEq, Prod.mk.injEq] at he
    obtain ⟨rfl, rfl⟩ := he
    obtain ⟨ys, e1, hsz, hrel⟩ := (hr x (by simp [Op.operands, Call.operands]) _ h1).func_inv
    have h3 := evalArgs_rel (a := a) args _ (fun x hx u hu => hr x (by simp [Op.operands, Call.operands, hx]) u hu) h2
    refine ⟨args.map a.eval ++ ys.toList, ⟨by simp [h3.len, hsz], ?_⟩, ?_⟩
    ·intro j u v hu hv
     have hl := h3.len
     by_cases hj : j < us.length
     ·rw [List.getElem?_append_left hj] at hu
      rw [List.getElem?_append_left (by omega)] at hv
      exact h3.rel j u v hu hv
     ·rw [List.getElem?_append_right (by omega)] at hu
      rw [List.getElem?_append_right (by omega), ← hl] at hv
      exact hrel _ u v (by simpa using hu) (by simpa using hv)
    ·simp [execOp, resolve, Deferred.ofValue, e1, invoke, callFunc, hf, hname, hb]
   ·cases he
 simp only [Oper.wp, hrun, Oper.upon_enter]
 refine (hd.2 μ w _ hs hargs).mono ?_
 rintro e w' ⟨v, v', st', μ', rfl, h2, h3, h4, h5, h6⟩
 exact hk v v' w' μ' st' h3 h2 h4 h5 h6

end
end Go.Proofs.YtnphhelbianjpaaGreatDoor.V
namespace Go.Proofs.YtnphhelbianjpaaGreatDoor.V
open Go Go.RowKit

section
variable (P : Program) (w0 : World) (N : Nat)

structure ROk (ops : Array Oper) (o : Oper) (r : ROp) : Prop where
 dst : r.dst = o.dst
 lt : ∀ d, r.dst = some d → d < N
 op : COk P o r.op
 guard : match o.guard, r.guard with
  | none, none => True
  | some (j, want), some (t, want') => want' = want ∧ (ops[j]?).bind (·.dst) = some t
  | _, _ => False

def Goes (K : Env → St → Prop) (μ : Mp) (st : St) (a : Act) (w : World) : Prop :=
 ∃ env' st' μ', K env' st' ∧ Sim P w0 μ' st' w ∧ EnvRel P w0.heap.size N μ' env' a.tmps ∧ a.defers = [] ∧ Ext μ μ' ∧ Keep μ st μ' st'

variable {P w0 N}
variable {ops : Array Oper} {Q : Exit → Act → World → Prop} {i : Nat} {o : Oper} {K : Env → St → Prop} {a : Act} {w : World} {μ : Mp} {env : Env} {st : St}

theorem Goes.pre {μ' : Mp} {st' : St} (he : Ext μ μ') (hk : Keep μ st μ' st') (h : Goes P w0 N K μ' st' a w) : Goes P w0 N K μ st a w := by
 obtain ⟨env', st'', μ'', h1, h2, h3, h4, h5, h6⟩ := h
 exact ⟨env', st'', μ'', h1, h2, h3, h4, he.trans h5, hk.trans h6⟩

theorem guard_eq {r : ROp} (hr : ROk P N ops o r) {b : Bool} (hg : guardOf env r.guard = some b)
  (hrel : ∀ t want, r.guard = some (t, want) → ∀ u, env.lookup t = some u → ∃ u', a.tmps[t]? = some u' ∧ VRel P w0.heap.size μ u u') :
  Region.wanted o (yielded ops a.tmps) = b := by
 have h := hr.guard
 unfold Region.wanted
 cases hog : o.guard with
 | none =>
  rw [hog] at h
  cases hrg : r.guard with
  | none => rw [hrg] at hg; simp only [guardOf, Option.some.injEq] at hg; exact hg
  | some q => rw [hrg] at h; exact h.elim
 | some q =>
  obtain ⟨j, want⟩ := q
  rw [hog] at h
  cases hrg : r.guard with
  | none => rw [hrg] at h; exact h.elim
  | some q' =>
   obtain ⟨t, want'⟩ := q'
   rw [hrg] at h hg
   simp only at h
   obtain ⟨rfl, hj⟩ := h
   simp only [guardOf] at hg
   cases hl : env.lookup t with
   | none => simp [hl] at hg
   | some u =>
    obtain ⟨u', h1, h2⟩ := hrel t want' hrg u hl
    rw [hl] at hg
    simp only [yielded, hj, Option.bind_some, h1]
    cases u with
    | bool c =>
     simp only [Option.some.injEq] at hg
     rw [h2.bool_eq]
     simp only
     rw [← hg]
     cases c <;> cases want' <;> rfl
    | tuple xs =>
     simp only [Option.some.injEq] at hg
     obtain ⟨ys, rfl, _⟩ := h2.tuple_inv
     simp only
     rw [← hg]
     rfl
    | _ => simp at hg

theorem EnvRel.putE {r : ROp} (hr : ROk P N ops o r) (he : EnvRel P w0.heap.size N μ env a.tmps) {v v' : Value} (hv : VRel P w0.heap.size μ v v') :
  EnvRel P w0.heap.size N μ (putE r.dst v env) (a.put o.dst v').tmps := by
 rw [← hr.dst]
 cases hd : r.dst with
 | none => exact he
 | some d => exact he.put (hr.lt d hd) hv

theorem put_defers (a : Act) (d : Option Tmp) (v : Value) : (a.put d v).defers = a.defers := by cases d <;> rfl

theorem EnvRel.opRel (he : EnvRel P w0.heap.size N μ env a.tmps) (o : Oper) : OpRel P w0.heap.size μ env a o := fun _ _ _ hu => he.eval hu

theorem region_text : ∀ (is : List Nat) (rs : List ROp) (μ : Mp) (st : St) (env : Env) (a : Act) (w : World), All2 (fun i r => ∃ o, ops[i]? = some o ∧ ROk P N ops o r) is rs →
  wpR P w0 rs K env st → Sim P w0 μ st w → EnvRel P w0.heap.size N μ env a.tmps → a.defers = [] → (∀ a' w', Goes P w0 N K μ st a' w' → Q .normal a' w') →
  wpOps P ops Q is a w := by
 intro is
 induction is with
 | nil =>
  intro rs μ st env a w hf hw hs he hd hq
  cases hf
  exact hq a w ⟨env, st, μ, hw, hs, he, hd, Ext.refl _, Keep.refl _ _⟩
 | cons i is ih =>
  intro rs μ st env a w hf hw hs he hd hq
  cases hf with
  | cons hr hrest =>
   rename_i r rs
   obtain ⟨o, ho, hr⟩ := hr
   rw [wpOps_cons]
   simp only [wpR] at hw
   cases hg : guardOf env r.guard with
   | none => rw [hg] at hw; exact hw.elim
   | some b =>
    have hgw := guard_eq (a := a) (μ := μ) hr hg (fun t want _ u hu => he.rel t u hu)
    rw [hg] at hw
    cases b with
    | false =>
     have hw := hw.2 rfl
     refine wpOp_skip ho hgw ?_
     exact ih rs μ st _ _ w hrest hw hs (he.putE hr VRel.undef) (by rw [put_defers]; exact hd) hq
    | true =>
     have hw := hw.1 rfl
     have hok := hr.op
     cases hop : r.op with
     | light l =>
      rw [hop] at hw hok
      simp only [COp.step] at hw
      cases hev : l.eval P w0 env st with
      | none => simp [hev] at hw
      | some v =>
       simp only [hev] at hw
       refine wpOp_light ho hgw hok hev hs (he.opRel o) fun v' hv => ?_
       exact ih rs μ st _ _ w hrest hw hs (he.putE hr hv) (by rw [put_defers]; exact hd) hq
     | alloc A =>
      rw [hop] at hw hok
      simp only [COp.step] at hw
      cases hev : A.eval env with
      | none => simp [hev] at hw
      | some q =>
       obtain ⟨bk, mk⟩ := q
       simp only [hev] at hw
       refine wpOp_alloc ho hgw hok hev (he.opRel o) fun obj v' hobj hv => ?_
       have hn := (hs.fresh st.next (Nat.le_refl _)).1
       have hs1 := (hs.ahead bk).birth (b := st.next) (by simp [St.alloc]) hn (Nat.lt_succ_self _) hobj
       have hext := Ext.upd hn (locOf w.heap.size obj)
       have hkeep : Keep μ st (upd μ st.next (locOf w.heap.size obj)) (st.alloc bk) :=
        ⟨Nat.le_succ _, fun b hb hm => ⟨by rw [upd_other _ _ (by omega)]; exact hm, by simp [St.alloc, Nat.ne_of_lt hb]⟩⟩
       exact ih rs _ _ _ _ _ hrest hw hs1 ((he.ext hext).putE hr (hv _ _ (upd_self _ _ _))) (by rw [put_defers]; exact hd)
        (fun a' w' hgo => hq a' w' (hgo.pre hext hkeep))
     | heavy h =>
      rw [hop] at hw hok
      simp only [COp.step] at hw
      cases hev : h.eval w0 env st with
      | none => simp [hev] at hw
      | some q =>
       obtain ⟨v, st'⟩ := q
       simp only [hev] at hw
       refine wpOp_heavy ho hgw hok hev hs (he.opRel o) fun v' w' μ' hv hs' hext hkeep => ?_
       exact ih rs _ _ _ _ _ hrest hw.2 hs' ((he.ext hext).putE hr hv) (by rw [put_defers]; exact hd)
        (fun a' w' hgo => hq a' w' (hgo.pre hext hkeep))
     | call f args =>
      rw [hop] at hw hok
      simp only [COp.step] at hw
      cases hev : evalC env f args with
      | none => simp [hev] at hw
      | some q =>
       obtain ⟨g, vs⟩ := q
       simp only [hev] at hw
       refine wpOp_call ho hgw hok hev hw hs (he.opRel o) fun v v' w' μ' st' hk hv hs' hext hkeep => ?_
       exact ih rs _ _ _ _ _ hrest hk.2 hs' ((he.ext hext).putE hr hv) (by rw [put_defers]; exact hd)
        (fun a' w' hgo => hq a' w' (hgo.pre hext hkeep))

end
end Go.Proofs.YtnphhelbianjpaaGreatDoor.V
namespace Go.Proofs.YtnphhelbianjpaaGreatDoor.V
open Go Go.RowKit

def LOp.readsHeap : LOp → Bool
 | .ld .. | .look .. | .b2s .. => true
 | _ => false

def optL : Option Operand → List Operand
 | none => []
 | some x => [x]

def LOp.ops : LOp → List Operand
 | .mov x | .un _ x | .conv _ _ x | .slA _ _ x | .len x | .lenS x | .nilchk x | .fa _ x | .ld _ _ x | .fld _ _ _ x | .ext _ x | .mkI _ x | .asrt _ _ x | .b2s x => [x]
 | .pick c a b => [c, a, b]
 | .bin _ _ x y | .eqp _ x y | .idxS _ x y | .iaS _ x y | .iaA _ _ x y | .look _ _ _ x y | .min2 x y => [x, y]
 | .slS _ x lo hi | .slc _ x lo hi => x :: (optL lo ++ optL hi)
 | .bld _ _ parts => parts.map (·.2)
 | .clo _ caps => caps

def tmpOf : Operand → Option Nat
 | .tmp t => some t
 | _ => none

def tmpsOf (l : List Operand) : List Nat := l.filterMap tmpOf

section
variable {P : Program} {w0 : World}

theorem eval_indep {l : LOp} (h : l.readsHeap = false) (env : Env) (st st' : St) : l.eval P w0 env st = l.eval P w0 env st' := by
 cases l <;> first | rfl | (simp [LOp.readsHeap] at h)

theorem cellsOf_le {st st' : St} (hle : st.le st') (hf : ∀ b, st.next ≤ b → st.blk b = none) {b : Nat} {cs : List Value} (h : cellsOf w0 st b = some cs) : cellsOf w0 st' b = some cs := by
 unfold cellsOf at h ⊢
 split
 ·rename_i hb; rw [if_pos hb] at h; exact h
 ·rename_i hb
  rw [if_neg hb] at h
  have hlt : b < st.next := by
   rcases Nat.lt_or_ge b st.next with h' | h'
   ·exact h'
   ·rw [hf b h'] at h; cases h
  rw [hle.blk b hlt]; exact h

theorem cellsAt_le {st st' : St} (hle : st.le st') (hf : ∀ b, st.next ≤ b → st.blk b = none) {a : Addr} {n : Nat} {cs : List Value} (h : cellsAt w0 st a n = some cs) : cellsAt w0 st' a n = some cs := by
 unfold cellsAt at h ⊢
 cases hc : cellsOf w0 st a.block with
 | none => simp [hc] at h
 | some cs' => rw [hc] at h; rw [cellsOf_le hle hf hc]; exact h

theorem eval_le {l : LOp} {env : Env} {st st' : St} (hle : st.le st') (hf : ∀ b, st.next ≤ b → st.blk b = none) {v : Value} (h : l.eval P w0 env st = some v) : l.eval P w0 env st' = some v := by
 by_cases hr : l.readsHeap = false
 ·rw [eval_indep hr env st' st]; exact h
 ·cases l <;> simp [LOp.readsHeap] at hr
  ·simp only [LOp.eval] at h ⊢
   split at h
   ·rename_i a h1
    try rw [h1]
    try simp only
    split at h
    ·rename_i cs hcs
     rw [cellsAt_le hle hf hcs]; exact h
    ·cases h
   ·cases h
  ·simp only [LOp.eval] at h ⊢
   split at h
   ·rename_i m k h1 h2
    try rw [h1, h2]
    try simp only
    cases m with
    | map q =>
     cases q with
     | none => exact h
     | some b =>
      simp only at h ⊢
      cases hb : st.blk b with
      | none => simp [hb] at h
      | some bk =>
       have hlt : b < st.next := by
        rcases Nat.lt_or_ge b st.next with h' | h'
        ·exact h'
        ·rw [hf b h'] at hb; cases hb
       rw [hle.blk b hlt]; exact h
    | _ => simp at h
   ·cases h
  ·simp only [LOp.eval] at h ⊢
   split at h
   ·exact h
   ·rename_i a n c h1
    try rw [h1]
    try simp only
    split at h
    ·rename_i cs hcs
     rw [cellsAt_le hle hf hcs]; exact h
    ·cases h
   ·cases h

theorem evalO_agree {env env' : Env} {x : Operand} (h : ∀ t, tmpOf x = some t → env.lookup t = env'.lookup t) : evalO env x = evalO env' x := by
 cases x with
 | tmp t => exact h t rfl
 | _ => rfl

theorem eval_env {l : LOp} {env env' : Env} (h : ∀ t ∈ tmpsOf l.ops, env.lookup t = env'.lookup t) (st : St) : l.eval P w0 env st = l.eval P w0 env' st := by
 have hx : ∀ x ∈ l.ops, evalO env x = evalO env' x := fun x hx => evalO_agree fun t ht => h t (List.mem_filterMap.2 ⟨x, hx, ht⟩)
 have hopt : ∀ (y : Option Operand), (∀ x ∈ optL y, evalO env x = evalO env' x) → evalOpt env y = evalOpt env' y := by
  intro y hy
  cases y with
  | none => rfl
  | some z => simp only [evalOpt]; rw [hy z (by simp [optL])]
 cases l
 case bld zero places parts =>
  have : evalParts env parts = evalParts env' parts := by
   clear h
   induction parts with
   | nil => rfl
   | cons p parts ih =>
    obtain ⟨i, x⟩ := p
    simp only [evalParts]
    rw [hx x (by simp [LOp.ops]), ih (fun y hy => hx y (by simp [LOp.ops] at hy ⊢; exact .inr hy))]
  simp only [LOp.eval, this]
 case clo g caps =>
  have : evalArgs env caps = evalArgs env' caps := by
   clear h
   induction caps with
   | nil => rfl
   | cons x caps ih =>
    simp only [evalArgs]
    rw [hx x (by simp [LOp.ops]), ih (fun y hy => hx y (by simp [LOp.ops] at hy ⊢; exact .inr hy))]
  simp only [LOp.eval, this]
 case slS t x lo hi =>
  simp only [LOp.eval]
  rw [hx x (by simp [LOp.ops]), hopt lo (fun y hy => hx y (by simp [LOp.ops, hy])), hopt hi (fun y hy => hx y (by simp [LOp.ops, hy]))]
 case slc t x lo hi =>
  simp only [LOp.eval]
  rw [hx x (by simp [LOp.ops]), hopt lo (fun y hy => hx y (by simp [LOp.ops, hy])), hopt hi (fun y hy => hx y (by simp [LOp.ops, hy]))]
 all_goals simp only [LOp.ops, List.mem_cons, List.not_mem_nil, or_false, forall_eq_or_imp, forall_eq] at hx
 all_goals simp only [LOp.eval]
 all_goals first | (rw [hx]; done) | (rw [hx.1, hx.2]; done) | (rw [hx.1, hx.2.1, hx.2.2]; done) | (simp only [hx])
end

def bit (m i : Nat) : Bool := m.testBit i

def maskOf (acc : List Nat) (l : List Edge) : Nat :=
 l.foldl (fun s e => if Region.binds .any e then s ||| (1 <<< e.on) ||| acc.getD e.on 0 else s) 0

def ancM : List Oper → List Nat → List Nat
 | [], acc => acc
 | o :: rest, acc => ancM rest (acc ++ [maskOf acc o.after.toList])

theorem maskOf_bit (acc : List Nat) (x : Nat) : ∀ (l : List Edge) (s : Nat), bit (l.foldl (fun s e => if Region.binds .any e then s ||| (1 <<< e.on) ||| acc.getD e.on 0 else s) s) x = true →
  bit s x = true ∨ ∃ e ∈ l, Region.binds .any e = true ∧ (x = e.on ∨ bit (acc.getD e.on 0) x = true) := by
 intro l
 induction l with
 | nil => intro s h; exact .inl h
 | cons e l ih =>
  intro s h
  simp only [List.foldl_cons] at h
  rcases ih _ h with h | ⟨e', h1, h2⟩
  ·split at h
   ·rename_i hb
    simp only [bit, Nat.testBit_or, Bool.or_eq_true] at h
    rcases h with (h | h) | h
    ·exact .inl h
    ·refine .inr ⟨e, List.mem_cons_self .., hb, .inl ?_⟩
     rw [Nat.one_shiftLeft, Nat.testBit_two_pow] at h
     simp at h; exact h.symm
    ·exact .inr ⟨e, List.mem_cons_self .., hb, .inr h⟩
   ·exact .inl h
  ·exact .inr ⟨e', List.mem_cons_of_mem _ h1, h2⟩

theorem ancM_sound (X : Nat → Prop) : ∀ (l : List Oper) (acc : List Nat), (∀ (k : Nat) (o : Oper), l[k]? = some o → X (acc.length + k) → ∀ e ∈ o.after.toList, Region.binds .any e = true → X e.on) →
  (∀ i x, bit (acc.getD i 0) x = true → X i → X x) → ∀ i x, bit ((ancM l acc).getD i 0) x = true → X i → X x := by
 intro l
 induction l with
 | nil => intro acc _ h; exact h
 | cons o l ih =>
  intro acc hcl hacc
  simp only [ancM]
  refine ih _ ?_ ?_
  ·intro k o' hk hx
   refine hcl (k + 1) o' (by simpa using hk) ?_
   simp only [lA, List.length_cons, List.length_nil] at hx
   rw [show acc.length + (k + 1) = acc.length + (0 + 1) + k by omega]; exact hx
  ·intro i x hb hx
   simp only [List.getD_eq_getElem?_getD] at hb
   rw [List.getElem?_append] at hb
   split at hb
   ·exact hacc i x (by simpa [List.getD_eq_getElem?_getD] using hb) hx
   ·rename_i hlt
    by_cases he : i = acc.length
    ·subst he
     simp only [Nat.sub_self, List.getElem?_cons_zero, Option.getD_some] at hb
     rcases maskOf_bit acc x _ 0 hb with h | ⟨e, h1, h2, h3⟩
     ·simp [bit] at h
     ·have hxe := hcl 0 o rfl (by simpa using hx) e h1 h2
      rcases h3 with rfl | h3
      ·exact hxe
      ·exact hacc e.on x h3 hxe
    ·rw [List.getElem?_eq_none (by simp; omega)] at hb
     simp [bit] at hb

def COp.isHeavy : COp → Bool
 | .heavy _ | .call _ _ => true
 | _ => false

def readsOf (o : Oper) (r : ROp) : List Nat :=
 tmpsOf o.op.operands.toList ++ (match r.guard with | some (t, _) => [t] | none => [])

structure PairOk (ord : Bool) (ox : Oper) (x : ROp) (oy : Oper) (y : ROp) : Prop where
 ssa : ∀ d, x.dst = some d → y.dst ≠ some d
 light : ord = false → x.op.isHeavy = false
 fwd : ord = false → ∀ d, x.dst = some d → d ∉ readsOf oy y
 bwd : ord = false → ∀ d, y.dst = some d → d ∉ readsOf ox x
 call : ord = false → ∀ l, x.op = .light l → l.readsHeap = true → ∀ f args, y.op = .call f args → y.quiet = true ∧ l ∈ y.keeps
 heavy : ord = false → ∀ l, x.op = .light l → l.readsHeap = true → ∀ h, y.op = .heavy h → l ∈ y.keeps

structure SchedOk (P : Program) (N : Nat) (ops : Array Oper) (L : List (Nat × ROp)) : Prop where
 rok : ∀ (p i : Nat) (r : ROp), L[p]? = some (i, r) → ∃ o, ops[i]? = some o ∧ ROk P N ops o r
 all : ∀ i, i < ops.size → ∃ (p : Nat) (r : ROp), L[p]? = some (i, r)
 one : ∀ (p q i : Nat) (r r' : ROp), L[p]? = some (i, r) → L[q]? = some (i, r') → p = q
 pair : ∀ (p q i j : Nat) (x y : ROp) (ox oy : Oper), p < q → L[p]? = some (i, x) → L[q]? = some (j, y) → ops[i]? = some ox → ops[j]? = some oy →
  PairOk (bit ((ancM ops.toList []).getD j 0) i) ox x oy y
 keep : ∀ (p q z i j k : Nat) (x y u : ROp) (l : LOp), p ≤ z → z < q → L[p]? = some (i, x) → L[q]? = some (j, y) → L[z]? = some (k, u) → x.op = .light l → l.readsHeap = true → y.op.isHeavy = true →
  bit ((ancM ops.toList []).getD j 0) i = false → ∀ d, u.dst = some d → d ∉ tmpsOf l.ops
 back : ∀ (i : Nat) (o : Oper), ops[i]? = some o → ∀ e ∈ o.after.toList, Region.binds .any e = true → e.on < i

section
variable {P : Program} {w0 : World} {N : Nat} {ops : Array Oper} {L : List (Nat × ROp)}

def Pend (P : Program) (w0 : World) (r : ROp) (env : Env) (st : St) (μ : Mp) (v : Value) (b : Nat) : Prop :=
 ∃ g, guardOf env r.guard = some g ∧ (g = false → v = undef) ∧ (g = true → match r.op with
  | .light l => l.eval P w0 env st = some v
  | .alloc A => ∃ bk mk, A.eval env = some (bk, mk) ∧ v = mk b ∧ st.blk b = some bk ∧ μ b = none ∧ b < st.next
  | _ => False)

structure Inv (P : Program) (w0 : World) (N : Nat) (ops : Array Oper) (L : List (Nat × ROp)) (K : Env → St → Prop) (μ0 : Mp) (st0 : St)
  (n : Nat) (X : Nat → Prop) (E : Nat → Env) (V : Nat → Value) (B : Nat → Nat) (env : Env) (st : St) (μ : Mp) (a : Act) (w : World) : Prop where
 run : wpR P w0 ((L.drop n).map (·.2)) K env st
 sim : Sim P w0 μ st w
 ext : Ext μ0 μ
 kp : Keep μ0 st0 μ st
 dfr : a.defers = []
 size : a.tmps.size = N
 closed : ∀ i, X i → ∀ o, ops[i]? = some o → ∀ e ∈ o.after.toList, Region.binds .any e = true → X e.on
 done : ∀ i, X i → ∃ (p : Nat) (r : ROp), p < n ∧ L[p]? = some (i, r)
 heavy : ∀ (p i : Nat) (r : ROp), p < n → L[p]? = some (i, r) → r.op.isHeavy = true → X i
 pend : ∀ (p i : Nat) (r : ROp), p < n → L[p]? = some (i, r) → ¬ X i → Pend P w0 r (E p) st μ (V p) (B p)
 blocks : ∀ (p q i j : Nat) (r r' : ROp), p < q → q < n → L[p]? = some (i, r) → L[q]? = some (j, r') → ¬ X i → ¬ X j → (∃ A, r.op = .alloc A) → (∃ A, r'.op = .alloc A) →
  guardOf (E p) r.guard = some true → guardOf (E q) r'.guard = some true → B p < B q
 low : ∀ (p i : Nat) (r : ROp), p < n → L[p]? = some (i, r) → ¬ X i → st0.next ≤ B p
 cur : ∀ t u, env.lookup t = some u → (∀ (p i : Nat) (r : ROp), p < n → L[p]? = some (i, r) → r.dst = some t → X i) → ∃ u', a.tmps[t]? = some u' ∧ VRel P w0.heap.size μ u u'
 opnd : ∀ (p i : Nat) (r : ROp) (o : Oper), p < n → L[p]? = some (i, r) → ops[i]? = some o → ¬ X i → ∀ t ∈ readsOf o r, ∀ u, (E p).lookup t = some u →
  (∀ (q j : Nat) (r' : ROp), q < p → L[q]? = some (j, r') → r'.dst = some t → X j) → ∃ u', a.tmps[t]? = some u' ∧ VRel P w0.heap.size μ u u'
 val : ∀ (p i : Nat) (r : ROp) (d : Nat), p < n → L[p]? = some (i, r) → ¬ X i → r.dst = some d → env.lookup d = some (V p)
 valE : ∀ (p q i : Nat) (r : ROp) (d : Nat), p < q → q < n → L[p]? = some (i, r) → ¬ X i → r.dst = some d → (E q).lookup d = some (V p)
 agree : ∀ (p : Nat) (t : Nat), p < n → (∀ (z k : Nat) (u : ROp), p ≤ z → z < n → L[z]? = some (k, u) → u.dst ≠ some t) → env.lookup t = (E p).lookup t

end
end Go.Proofs.YtnphhelbianjpaaGreatDoor.V
namespace Go.Proofs.YtnphhelbianjpaaGreatDoor.V
open Go Go.RowKit

def up {α : Type} (f : Nat → α) (n : Nat) (v : α) : Nat → α := fun p => if p = n then v else f p
theorem up_self {α : Type} (f : Nat → α) (n : Nat) (v : α) : up f n v n = v := by simp [up]
theorem up_ne {α : Type} (f : Nat → α) {n p : Nat} (v : α) (h : p ≠ n) : up f n v p = f p := by simp [up, h]

theorem lookup_putE {d : Option Nat} {v : Value} {env : Env} {t : Nat} (h : d ≠ some t) : (putE d v env).lookup t = env.lookup t := by
 cases d with
 | none => rfl
 | some d => simp only [putE, lookup_cons]; rw [if_neg]; intro e; subst e; exact h rfl
theorem lookup_putE_self {d : Nat} {v : Value} {env : Env} : (putE (some d) v env).lookup d = some v := by simp [putE]

section
variable {P : Program} {w0 : World} {N : Nat} {ops : Array Oper} {L : List (Nat × ROp)} {K : Env → St → Prop} {μ0 : Mp} {st0 : St}
variable {n : Nat} {X : Nat → Prop} {E : Nat → Env} {V : Nat → Value} {B : Nat → Nat} {env : Env} {st : St} {μ : Mp} {a : Act} {w : World}

theorem Inv.drop (h : Inv P w0 N ops L K μ0 st0 n X E V B env st μ a w) {i : Nat} {r : ROp} (hn : L[n]? = some (i, r)) : (L.drop n).map (·.2) = r :: (L.drop (n + 1)).map (·.2) := by
 obtain ⟨hlt, he⟩ := List.getElem?_eq_some_iff.1 hn
 rw [List.drop_eq_getElem_cons hlt, he]; rfl

theorem Pend.le {r : ROp} {env : Env} {st st' : St} {μ μ' : Mp} {v : Value} {b : Nat} (h : Pend P w0 r env st μ v b)
  (hlight : ∀ l v, r.op = .light l → l.eval P w0 env st = some v → l.eval P w0 env st' = some v) (hb : b < st.next → μ b = none → μ' b = none ∧ st'.blk b = st.blk b) (hn : st.next ≤ st'.next) :
  Pend P w0 r env st' μ' v b := by
 obtain ⟨g, h1, h2, h3⟩ := h
 refine ⟨g, h1, h2, fun hg => ?_⟩
 have h3 := h3 hg
 cases hop : r.op with
 | light l => rw [hop] at h3; exact hlight l v hop h3
 | alloc A =>
  rw [hop] at h3
  obtain ⟨bk, mk, k1, k2, k3, k4, k5⟩ := h3
  obtain ⟨q1, q2⟩ := hb k5 k4
  exact ⟨bk, mk, k1, k2, by rw [q2]; exact k3, q1, Nat.lt_of_lt_of_le k5 hn⟩
 | heavy _ => rw [hop] at h3; exact h3.elim
 | call _ _ => rw [hop] at h3; exact h3.elim

theorem Inv.ahead (hL : SchedOk P N ops L) (h : Inv P w0 N ops L K μ0 st0 n X E V B env st μ a w) {i : Nat} {r : ROp} (hn : L[n]? = some (i, r)) (hi : ¬ X i) (hv : r.op.isHeavy = false) :
  ∃ E' V' B' env' st', Inv P w0 N ops L K μ0 st0 (n + 1) X E' V' B' env' st' μ a w := by
 have hrun := h.run
 rw [h.drop hn] at hrun
 simp only [wpR] at hrun
 -- what the abstract run does
 have key : ∃ v b st', wpR P w0 ((L.drop (n + 1)).map (·.2)) K (putE r.dst v env) st' ∧ Pend P w0 r env st' μ v b ∧ (st' = st ∨ ∃ bk, st' = st.alloc bk) ∧ (b = st.next) := by
  cases hg : guardOf env r.guard with
  | none => rw [hg] at hrun; exact hrun.elim
  | some g =>
   rw [hg] at hrun
   cases g with
   | false => exact ⟨undef, st.next, st, hrun.2 rfl, ⟨false, hg, fun _ => rfl, (by intro h; cases h)⟩, .inl rfl, rfl⟩
   | true =>
    have hrun := hrun.1 rfl
    cases hop : r.op with
    | light l =>
     rw [hop] at hrun
     simp only [COp.step] at hrun
     cases hev : l.eval P w0 env st with
     | none => simp [hev] at hrun
     | some v =>
      simp only [hev] at hrun
      exact ⟨v, st.next, st, hrun, ⟨true, hg, (by intro h; cases h), (by intro _; rw [hop]; exact hev)⟩, .inl rfl, rfl⟩
    | alloc A =>
     rw [hop] at hrun
     simp only [COp.step] at hrun
     cases hev : A.eval env with
     | none => simp [hev] at hrun
     | some q =>
      obtain ⟨bk, mk⟩ := q
      simp only [hev] at hrun
      refine ⟨mk st.next, st.next, st.alloc bk, hrun, ⟨true, hg, (by intro h; cases h), fun _ => ?_⟩, .inr ⟨bk, rfl⟩, rfl⟩
      rw [hop]
      exact ⟨bk, mk, hev, rfl, by simp [St.alloc], (h.sim.fresh st.next (Nat.le_refl _)).1, Nat.lt_succ_self _⟩
    | heavy _ => rw [hop] at hv; simp [COp.isHeavy] at hv
    | call _ _ => rw [hop] at hv; simp [COp.isHeavy] at hv
 obtain ⟨v, b, st', hrun', hpend, hst, hb⟩ := key
 have hle : st.le st' := by
  rcases hst with rfl | ⟨bk, rfl⟩
  ·exact St.le.refl _
  ·exact St.le.alloc _ _
 have hsim : Sim P w0 μ st' w := by
  rcases hst with rfl | ⟨bk, rfl⟩
  ·exact h.sim
  ·exact h.sim.ahead bk
 have hkeep : Keep μ0 st0 μ st' := h.kp.trans ⟨hle.next, fun b hb hm => ⟨hm, hle.blk b hb⟩⟩
 have hfr : ∀ b, st.next ≤ b → st.blk b = none := fun b hb => (h.sim.fresh b hb).2
 refine ⟨up E n env, up V n v, up B n b, putE r.dst v env, st', ⟨hrun', hsim, h.ext, hkeep, h.dfr, h.size, h.closed, ?_, ?_, ?_, ?_, ?_, ?_, ?_, ?_, ?_, ?_⟩⟩
 ·intro j hj
  obtain ⟨p, r', hp, hp'⟩ := h.done j hj
  exact ⟨p, r', Nat.lt_succ_of_lt hp, hp'⟩
 ·intro p j r' hp hp' hh
  rcases Nat.lt_succ_iff_lt_or_eq.1 hp with hp | rfl
  ·exact h.heavy p j r' hp hp' hh
  ·rw [hn] at hp'; cases hp'; rw [hv] at hh; cases hh
 ·intro p j r' hp hp' hx
  rcases Nat.lt_succ_iff_lt_or_eq.1 hp with hp | rfl
  ·rw [up_ne _ _ (by omega), up_ne _ _ (by omega), up_ne _ _ (by omega)]
   exact (h.pend p j r' hp hp' hx).le (fun l v _ hl => eval_le hle hfr hl) (fun hb hm => ⟨hm, hle.blk _ hb⟩) hle.next
  ·rw [hn] at hp'; cases hp'
   rw [up_self, up_self, up_self]
   exact hpend
 ·intro p q j k r1 r2 hpq hq hp' hq' hx1 hx2 ha1 ha2 hg1 hg2
  rcases Nat.lt_succ_iff_lt_or_eq.1 hq with hq | rfl
  ·rw [up_ne _ _ (by omega)] at hg1
   rw [up_ne _ _ (by omega)] at hg2
   rw [up_ne _ _ (by omega), up_ne _ _ (by omega)]
   exact h.blocks p q j k r1 r2 hpq hq hp' hq' hx1 hx2 ha1 ha2 hg1 hg2
  ·rw [up_ne _ _ (by omega)] at hg1
   rw [up_self, up_ne _ _ (by omega), hb]
   obtain ⟨g, k1, _, k3⟩ := h.pend p j r1 hpq hp' hx1
   rw [hg1] at k1; cases k1
   have k3 := k3 rfl
   obtain ⟨A, hA⟩ := ha1
   rw [hA] at k3
   obtain ⟨_, _, _, _, _, _, k⟩ := k3
   exact k
 ·intro p j r' hp hp' hx
  rcases Nat.lt_succ_iff_lt_or_eq.1 hp with hp | rfl
  ·rw [up_ne _ _ (by omega)]; exact h.low p j r' hp hp' hx
  ·rw [up_self, hb]; exact h.kp.next
 ·intro t u hu hw
  have hne : r.dst ≠ some t := by
   intro e
   exact hi (hw n i r (Nat.lt_succ_self _) hn e)
  rw [lookup_putE hne] at hu
  exact h.cur t u hu (fun p j r' hp hp' hd => hw p j r' (Nat.lt_succ_of_lt hp) hp' hd)
 ·intro p j r' o hp hp' ho hx t ht u hu hw
  rcases Nat.lt_succ_iff_lt_or_eq.1 hp with hp | rfl
  ·rw [up_ne _ _ (by omega)] at hu
   exact h.opnd p j r' o hp hp' ho hx t ht u hu hw
  ·rw [up_self] at hu
   exact h.cur t u hu hw
 ·intro p j r' d hp hp' hx hd
  rcases Nat.lt_succ_iff_lt_or_eq.1 hp with hp | rfl
  ·rw [up_ne _ _ (by omega)]
   obtain ⟨o1, ho1, _⟩ := hL.rok p j r' hp'
   obtain ⟨o2, ho2, _⟩ := hL.rok n i r hn
   have := (hL.pair p n j i r' r o1 o2 hp hp' hn ho1 ho2).ssa d hd
   rw [lookup_putE this]
   exact h.val p j r' d hp hp' hx hd
  ·rw [hn] at hp'; cases hp'
   rw [up_self, hd, lookup_putE_self]
 ·intro p q j r' d hpq hq hp' hx hd
  rcases Nat.lt_succ_iff_lt_or_eq.1 hq with hq | rfl
  ·rw [up_ne _ _ (by omega), up_ne _ _ (by omega)]
   exact h.valE p q j r' d hpq hq hp' hx hd
  ·rw [up_self, up_ne _ _ (by omega)]
   exact h.val p j r' d hpq hp' hx hd
 ·intro p t hp hz
  have hne : r.dst ≠ some t := hz n i r (by omega) (Nat.lt_succ_self _) hn
  rw [lookup_putE hne]
  rcases Nat.lt_succ_iff_lt_or_eq.1 hp with hp | rfl
  ·rw [up_ne _ _ (by omega)]
   exact h.agree p t hp (fun z k u h1 h2 => hz z k u h1 (Nat.lt_succ_of_lt h2))
  ·rw [up_self]

theorem anc_done (hcl : ∀ i, X i → ∀ o, ops[i]? = some o → ∀ e ∈ o.after.toList, Region.binds .any e = true → X e.on) {i : Nat}
  (hready : ∀ o, ops[i]? = some o → ∀ e ∈ o.after.toList, Region.binds .any e = true → X e.on) {j : Nat} (hb : bit ((ancM ops.toList []).getD i 0) j = true) (hj : j ≠ i) : X j := by
 have := ancM_sound (fun k => k = i ∨ X k) ops.toList [] (by
  intro k o hk hx e he hbe
  simp only [List.length_nil, Nat.zero_add] at hx
  have ho : ops[k]? = some o := by simpa using hk
  rcases hx with rfl | hx
  ·exact .inr (hready o ho e he hbe)
  ·exact .inr (hcl k hx o ho e he hbe)) (by intro i x h; simp [bit] at h) i j hb (.inl rfl)
 exact this.resolve_left hj

theorem putA_ne (a : Act) {d : Option Nat} (v : Value) {t : Nat} (h : d ≠ some t) : (a.put d v).tmps[t]? = a.tmps[t]? := by
 cases d with
 | none => rfl
 | some d =>
  have : d ≠ t := by intro e; subst e; exact h rfl
  simp [Act.put, this]
theorem putA_self (a : Act) {d : Nat} (v : Value) (h : d < a.tmps.size) : (a.put (some d) v).tmps[d]? = some v := by simp [Act.put, h]
theorem putA_size (a : Act) (d : Option Nat) (v : Value) : (a.put d v).tmps.size = a.tmps.size := by cases d <;> simp [Act.put]

theorem mem_tmpsOf {l : List Operand} {t : Nat} (h : Operand.tmp t ∈ l) : t ∈ tmpsOf l := List.mem_filterMap.2 ⟨_, h, rfl⟩

theorem Inv.exec (hL : SchedOk P N ops L) (h : Inv P w0 N ops L K μ0 st0 n X E V B env st μ a w) {p i : Nat} {r : ROp} (hp : p < n) (hp' : L[p]? = some (i, r)) (hi : ¬ X i)
  (hready : ∀ o, ops[i]? = some o → ∀ e ∈ o.after.toList, Region.binds .any e = true → X e.on) {Q : Exit → Act → World → Prop} {KK : Act → World → Prop}
  (hk : ∀ μ' a' w', Inv P w0 N ops L K μ0 st0 n (fun j => j = i ∨ X j) E V B env st μ' a' w' → KK a' w') : wpOp P ops Q i KK a w := by
 obtain ⟨o, ho, hrok⟩ := hL.rok p i r hp'
 -- who writes what is read has been done
 have hread : ∀ t ∈ readsOf o r, ∀ u, (E p).lookup t = some u → ∃ u', a.tmps[t]? = some u' ∧ VRel P w0.heap.size μ u u' := by
  intro t ht u hu
  refine h.opnd p i r o hp hp' ho hi t ht u hu ?_
  intro q j r' hq hq' hd
  obtain ⟨o', ho', _⟩ := hL.rok q j r' hq'
  have hpair := hL.pair q p j i r' r o' o hq hq' hp' ho' ho
  cases hb : bit ((ancM ops.toList []).getD i 0) j with
  | true =>
   refine anc_done h.closed hready hb ?_
   intro e; subst e
   have := hL.one q p j r' r hq' hp'
   omega
  | false =>
   rw [hb] at hpair
   exact absurd ht (hpair.fwd rfl t hd)
 have hop : OpRel P w0.heap.size μ (E p) a o := by
  intro x hx u hu
  cases x with
  | tmp t =>
   obtain ⟨u', h1, h2⟩ := hread t (List.mem_append_left _ (mem_tmpsOf hx)) u hu
   have : a.eval (.tmp t) = u' := by simp [Act.eval, Array.getD_eq_getD_getElem?, h1]
   rw [this]; exact h2
  | const c =>
   simp only [evalO] at hu
   split at hu
   ·cases hu; exact VRel.flat (by assumption)
   ·cases hu
  | global g => cases hu
  | func f => cases hu
 obtain ⟨g, hg, hg1, hg2⟩ := h.pend p i r hp hp' hi
 have hgw := guard_eq (a := a) (μ := μ) hrok hg (fun t want hrg u hu => hread t (List.mem_append_right _ (by rw [hrg]; simp)) u hu)
 -- what is known behind it
 have fin : ∀ (μ' : Mp) (v' : Value) (w' : World), VRel P w0.heap.size μ' (V p) v' → Sim P w0 μ' st w' → Ext μ μ' → Keep μ0 st0 μ' st →
   (∀ (q j : Nat) (r' : ROp), q < n → L[q]? = some (j, r') → ¬ (j = i ∨ X j) → Pend P w0 r' (E q) st μ' (V q) (B q)) → KK (a.put o.dst v') w' := by
  intro μ' v' w' hv hs' hext hkp hpend
  have ssa : ∀ (q j : Nat) (r' : ROp), L[q]? = some (j, r') → ∀ d, r'.dst = some d → r.dst = some d → q = p := by
   intro q j r' hq' d h1 h2
   obtain ⟨o', ho', _⟩ := hL.rok q j r' hq'
   rcases Nat.lt_trichotomy q p with hlt | heq | hlt
   ·exact absurd h2 ((hL.pair q p j i r' r o' o hlt hq' hp' ho' ho).ssa d h1)
   ·exact heq
   ·exact absurd h1 ((hL.pair p q i j r r' o o' hlt hp' hq' ho ho').ssa d h2)
  have notX : ∀ {j}, ¬ (j = i ∨ X j) → ¬ X j ∧ j ≠ i := fun h => ⟨fun hx => h (.inr hx), fun hx => h (.inl hx)⟩
  rw [← hrok.dst]
  refine hk μ' _ w' ⟨h.run, hs', h.ext.trans hext, hkp, by rw [put_defers]; exact h.dfr, by rw [putA_size]; exact h.size, ?_, ?_, ?_, hpend, ?_, ?_, ?_, ?_, ?_, ?_, h.agree⟩
  ·intro j hj o' ho' e he hbe
   rcases hj with rfl | hj
   ·exact .inr (hready o' ho' e he hbe)
   ·exact .inr (h.closed j hj o' ho' e he hbe)
  ·intro j hj
   rcases hj with rfl | hj
   ·exact ⟨p, r, hp, hp'⟩
   ·exact h.done j hj
  ·intro q j r' hq hq' hh
   exact .inr (h.heavy q j r' hq hq' hh)
  ·intro q1 q2 j1 j2 r1 r2 hq hq2 h1 h2 hx1 hx2
   exact h.blocks q1 q2 j1 j2 r1 r2 hq hq2 h1 h2 (notX hx1).1 (notX hx2).1
  ·intro q j r' hq hq' hx
   exact h.low q j r' hq hq' (notX hx).1
  ·intro t u hu hw
   by_cases hd : r.dst = some t
   ·have := h.val p i r t hp hp' hi hd
    rw [this] at hu; cases hu
    rw [hd]
    exact ⟨v', putA_self a v' (by rw [h.size]; exact hrok.lt t hd), hv⟩
   ·rw [putA_ne a v' hd]
    obtain ⟨u', k1, k2⟩ := h.cur t u hu (fun q j r' hq hq' hd' => by
     rcases hw q j r' hq hq' hd' with rfl | hx
     ·have := hL.one q p j r' r hq' hp'
      subst this
      rw [hq'] at hp'; cases hp'
      exact absurd hd' hd
     ·exact hx)
    exact ⟨u', k1, k2.ext hext⟩
  ·intro q j r' o' hq hq' ho' hx t ht u hu hw
   obtain ⟨hx1, hx2⟩ := notX hx
   by_cases hd : r.dst = some t
   ·-- it is what has just been written that is read: p stands ahead of q
    have hpq : p < q := by
     rcases Nat.lt_trichotomy p q with hlt | heq | hlt
     ·exact hlt
     ·subst heq; rw [hp'] at hq'; cases hq'; exact absurd rfl hx2
     ·have hpair := hL.pair q p j i r' r o' o hlt hq' hp' ho' ho
      cases hb : bit ((ancM ops.toList []).getD i 0) j with
      | true => exact absurd (anc_done h.closed hready hb hx2) hx1
      | false => rw [hb] at hpair; exact absurd ht (hpair.bwd rfl t hd)
    have := h.valE p q i r t hpq hq hp' hi hd
    rw [this] at hu; cases hu
    rw [hd]
    exact ⟨v', putA_self a v' (by rw [h.size]; exact hrok.lt t hd), hv⟩
   ·rw [putA_ne a v' hd]
    obtain ⟨u', k1, k2⟩ := h.opnd q j r' o' hq hq' ho' hx1 t ht u hu (fun q2 j2 r2 h1 h2 hd' => by
     rcases hw q2 j2 r2 h1 h2 hd' with rfl | hx
     ·have := hL.one q2 p j2 r2 r h2 hp'
      subst this
      rw [h2] at hp'; cases hp'
      exact absurd hd' hd
     ·exact hx)
    exact ⟨u', k1, k2.ext hext⟩
  ·intro q j r' d hq hq' hx hd
   exact h.val q j r' d hq hq' (notX hx).1 hd
  ·intro q1 q2 j r' d hq hq2 h1 hx hd
   exact h.valE q1 q2 j r' d hq hq2 h1 (notX hx).1 hd
 have same : ∀ (q j : Nat) (r' : ROp), q < n → L[q]? = some (j, r') → ¬ (j = i ∨ X j) → Pend P w0 r' (E q) st μ (V q) (B q) :=
  fun q j r' hq hq' hx => h.pend q j r' hq hq' (fun hx' => hx (.inr hx'))
 cases g with
 | false =>
  have := hg1 rfl
  refine wpOp_skip ho hgw ?_
  exact fin μ undef w (by rw [this]; exact VRel.undef) h.sim (Ext.refl _) h.kp same
 | true =>
  have hg2 := hg2 rfl
  have hok := hrok.op
  cases hopr : r.op with
  | light l =>
   rw [hopr] at hg2 hok
   exact wpOp_light ho hgw hok hg2 h.sim hop fun v' hv => fin μ v' w hv h.sim (Ext.refl _) h.kp same
  | alloc A =>
   rw [hopr] at hg2 hok
   obtain ⟨bk, mk, k1, k2, k3, k4, k5⟩ := hg2
   refine wpOp_alloc ho hgw hok k1 hop fun obj v' hobj hv => ?_
   have hext := Ext.upd k4 (locOf w.heap.size obj)
   refine fin _ v' _ (by rw [k2]; exact hv _ _ (upd_self _ _ _)) (h.sim.birth k3 k4 k5 hobj) hext ?_ ?_
   ·refine ⟨h.kp.next, fun b hb hm => ?_⟩
    obtain ⟨q1, q2⟩ := h.kp.unborn b hb hm
    refine ⟨?_, q2⟩
    rw [upd_other]
    ·exact q1
    ·intro e
     subst e
     have := h.low p i r hp hp' hi
     omega
   ·intro q j r' hq hq' hx
    have hx1 : ¬ X j := fun hx' => hx (.inr hx')
    have hx2 : j ≠ i := fun hx' => hx (.inl hx')
    obtain ⟨g', m1, m2, m3⟩ := h.pend q j r' hq hq' hx1
    refine ⟨g', m1, m2, fun hg' => ?_⟩
    have m3 := m3 hg'
    cases hop2 : r'.op with
    | light l => rw [hop2] at m3; exact m3
    | alloc A' =>
     rw [hop2] at m3
     obtain ⟨bk', mk', n1, n2, n3, n4, n5⟩ := m3
     refine ⟨bk', mk', n1, n2, n3, ?_, n5⟩
     rw [upd_other]
     ·exact n4
     ·subst hg'
      rcases Nat.lt_trichotomy q p with hlt | heq | hlt
      ·have := h.blocks q p j i r' r hlt hp hq' hp' hx1 hi ⟨A', hop2⟩ ⟨A, hopr⟩ m1 hg
       omega
      ·subst heq; rw [hp'] at hq'; cases hq'; exact absurd rfl hx2
      ·have := h.blocks p q i j r r' hlt hq hp' hq' hi hx1 ⟨A, hopr⟩ ⟨A', hop2⟩ hg m1
       omega
    | heavy _ => rw [hop2] at m3; exact m3.elim
    | call _ _ => rw [hop2] at m3; exact m3.elim
  | heavy _ => rw [hopr] at hg2; exact hg2.elim
  | call _ _ => rw [hopr] at hg2; exact hg2.elim

theorem Inv.execH (hL : SchedOk P N ops L) (h : Inv P w0 N ops L K μ0 st0 n X E V B env st μ a w) {i : Nat} {r : ROp} (hp' : L[n]? = some (i, r)) (hv : r.op.isHeavy = true)
  (hi : ¬ X i) (hready : ∀ o, ops[i]? = some o → ∀ e ∈ o.after.toList, Region.binds .any e = true → X e.on) {Q : Exit → Act → World → Prop} {KK : Act → World → Prop}
  (hk : ∀ env' st' μ' a' w', Inv P w0 N ops L K μ0 st0 (n + 1) (fun j => j = i ∨ X j) (up E n env) V B env' st' μ' a' w' → KK a' w') : wpOp P ops Q i KK a w := by
 obtain ⟨o, ho, hrok⟩ := hL.rok n i r hp'
 have hrun := h.run
 rw [h.drop hp'] at hrun
 simp only [wpR] at hrun
 have ahead : ∀ (q j : Nat) (r' : ROp), q < n → L[q]? = some (j, r') → ¬ X j → bit ((ancM ops.toList []).getD i 0) j = false := by
  intro q j r' hq hq' hx
  cases hb : bit ((ancM ops.toList []).getD i 0) j with
  | false => rfl
  | true =>
   refine absurd (anc_done h.closed hready hb ?_) hx
   intro e; subst e
   have := hL.one q n j r' r hq' hp'
   omega
 have hread : ∀ t ∈ readsOf o r, ∀ u, env.lookup t = some u → ∃ u', a.tmps[t]? = some u' ∧ VRel P w0.heap.size μ u u' := by
  intro t ht u hu
  refine h.cur t u hu ?_
  intro q j r' hq hq' hd
  obtain ⟨o', ho', _⟩ := hL.rok q j r' hq'
  have hpair := hL.pair q n j i r' r o' o hq hq' hp' ho' ho
  by_cases hx : X j
  ·exact hx
  ·rw [ahead q j r' hq hq' hx] at hpair
   exact absurd ht (hpair.fwd rfl t hd)
 have hop : OpRel P w0.heap.size μ env a o := by
  intro x hx u hu
  cases x with
  | tmp t =>
   obtain ⟨u', h1, h2⟩ := hread t (List.mem_append_left _ (mem_tmpsOf hx)) u hu
   have : a.eval (.tmp t) = u' := by simp [Act.eval, Array.getD_eq_getD_getElem?, h1]
   rw [this]; exact h2
  | const c =>
   simp only [evalO] at hu
   split at hu
   ·cases hu; exact VRel.flat (by assumption)
   ·cases hu
  | global g => cases hu
  | func f => cases hu
 have notX : ∀ {j}, ¬ (j = i ∨ X j) → ¬ X j ∧ j ≠ i := fun h => ⟨fun hx => h (.inr hx), fun hx => h (.inl hx)⟩
 have fin : ∀ (v : Value) (st' : St) (μ' : Mp) (v' : Value) (w' : World), VRel P w0.heap.size μ' v v' → Sim P w0 μ' st' w' → Ext μ μ' → Keep μ st μ' st' →
   wpR P w0 ((L.drop (n + 1)).map (·.2)) K (putE r.dst v env) st' →
   (∀ (q j : Nat) (r' : ROp), q < n → L[q]? = some (j, r') → ¬ X j → ∀ l u, r'.op = .light l → l.eval P w0 (E q) st = some u → l.eval P w0 (E q) st' = some u) → KK (a.put o.dst v') w' := by
  intro v st' μ' v' w' hvv hs' hext hkeep hrun' hlights
  rw [← hrok.dst]
  refine hk _ st' μ' _ w' ⟨hrun', hs', h.ext.trans hext, h.kp.trans hkeep, by rw [put_defers]; exact h.dfr, by rw [putA_size]; exact h.size, ?_, ?_, ?_, ?_, ?_, ?_, ?_, ?_, ?_, ?_, ?_⟩
  ·intro j hj o' ho' e he hbe
   rcases hj with rfl | hj
   ·exact .inr (hready o' ho' e he hbe)
   ·exact .inr (h.closed j hj o' ho' e he hbe)
  ·intro j hj
   rcases hj with rfl | hj
   ·exact ⟨n, r, Nat.lt_succ_self _, hp'⟩
   ·obtain ⟨p, r', k1, k2⟩ := h.done j hj
    exact ⟨p, r', Nat.lt_succ_of_lt k1, k2⟩
  ·intro q j r' hq hq' hh
   rcases Nat.lt_succ_iff_lt_or_eq.1 hq with hq | rfl
   ·exact .inr (h.heavy q j r' hq hq' hh)
   ·rw [hp'] at hq'; cases hq'; exact .inl rfl
  ·intro q j r' hq hq' hx
   obtain ⟨hx1, hx2⟩ := notX hx
   rcases Nat.lt_succ_iff_lt_or_eq.1 hq with hq | rfl
   ·rw [up_ne _ _ (by omega)]
    exact (h.pend q j r' hq hq' hx1).le (hlights q j r' hq hq' hx1) (fun hb hm => hkeep.unborn _ hb hm) hkeep.next
   ·rw [hp'] at hq'; cases hq'; exact absurd rfl hx2
  ·intro q1 q2 j1 j2 r1 r2 hq hq2 h1 h2 hx1 hx2 ha1 ha2 hg1 hg2
   rcases Nat.lt_succ_iff_lt_or_eq.1 hq2 with hq2 | rfl
   ·rw [up_ne _ _ (by omega)] at hg1
    rw [up_ne _ _ (by omega)] at hg2
    exact h.blocks q1 q2 j1 j2 r1 r2 hq hq2 h1 h2 (notX hx1).1 (notX hx2).1 ha1 ha2 hg1 hg2
   ·rw [hp'] at h2; cases h2; exact absurd rfl (notX hx2).2
  ·intro q j r' hq hq' hx
   rcases Nat.lt_succ_iff_lt_or_eq.1 hq with hq | rfl
   ·exact h.low q j r' hq hq' (notX hx).1
   ·rw [hp'] at hq'; cases hq'; exact absurd rfl (notX hx).2
  ·intro t u hu hw
   by_cases hd : r.dst = some t
   ·rw [hd, lookup_putE_self] at hu; cases hu
    rw [hd]
    exact ⟨v', putA_self a v' (by rw [h.size]; exact hrok.lt t hd), hvv⟩
   ·rw [lookup_putE hd] at hu
    rw [putA_ne a v' hd]
    obtain ⟨u', k1, k2⟩ := h.cur t u hu (fun q j r' hq hq' hd' => by
     rcases hw q j r' (Nat.lt_succ_of_lt hq) hq' hd' with rfl | hx
     ·have := hL.one q n j r' r hq' hp'
      omega
     ·exact hx)
    exact ⟨u', k1, k2.ext hext⟩
  ·intro q j r' o' hq hq' ho' hx t ht u hu hw
   obtain ⟨hx1, hx2⟩ := notX hx
   rcases Nat.lt_succ_iff_lt_or_eq.1 hq with hq | rfl
   ·rw [up_ne _ _ (by omega)] at hu
    have hd : r.dst ≠ some t := by
     intro hd
     have hpair := hL.pair q n j i r' r o' o hq hq' hp' ho' ho
     rw [ahead q j r' hq hq' hx1] at hpair
     exact absurd ht (hpair.bwd rfl t hd)
    rw [putA_ne a v' hd]
    obtain ⟨u', k1, k2⟩ := h.opnd q j r' o' hq hq' ho' hx1 t ht u hu (fun q2 j2 r2 h1 h2 hd' => by
     rcases hw q2 j2 r2 h1 h2 hd' with rfl | hx
     ·have := hL.one q2 n j2 r2 r h2 hp'
      omega
     ·exact hx)
    exact ⟨u', k1, k2.ext hext⟩
   ·rw [hp'] at hq'; cases hq'; exact absurd rfl hx2
  ·intro q j r' d hq hq' hx hd
   rcases Nat.lt_succ_iff_lt_or_eq.1 hq with hq | rfl
   ·obtain ⟨o', ho', _⟩ := hL.rok q j r' hq'
    have := (hL.pair q n j i r' r o' o hq hq' hp' ho' ho).ssa d hd
    rw [lookup_putE this]
    exact h.val q j r' d hq hq' (notX hx).1 hd
   ·rw [hp'] at hq'; cases hq'; exact absurd rfl (notX hx).2
  ·intro q1 q2 j r' d hq hq2 h1 hx hd
   rcases Nat.lt_succ_iff_lt_or_eq.1 hq2 with hq2 | rfl
   ·rw [up_ne _ _ (by omega)]
    exact h.valE q1 q2 j r' d hq hq2 h1 (notX hx).1 hd
   ·rw [up_self]
    exact h.val q1 j r' d hq h1 (notX hx).1 hd
  ·intro q t hq hz
   have hne : r.dst ≠ some t := hz n i r (by omega) (Nat.lt_succ_self _) hp'
   rw [lookup_putE hne]
   rcases Nat.lt_succ_iff_lt_or_eq.1 hq with hq | rfl
   ·rw [up_ne _ _ (by omega)]
    exact h.agree q t hq (fun z k u h1 h2 => hz z k u h1 (Nat.lt_succ_of_lt h2))
   ·rw [up_self]
 cases hg : guardOf env r.guard with
 | none => rw [hg] at hrun; exact hrun.elim
 | some g =>
  have hgw := guard_eq (a := a) (μ := μ) hrok hg (fun t want hrg u hu => hread t (List.mem_append_right _ (by rw [hrg]; simp)) u hu)
  rw [hg] at hrun
  cases g with
  | false =>
   have hrun := hrun.2 rfl
   refine wpOp_skip ho hgw ?_
   exact fin undef st μ undef w VRel.undef h.sim (Ext.refl _) (Keep.refl _ _) hrun (fun _ _ _ _ _ _ _ _ _ hl => hl)
  | true =>
   have hrun := hrun.1 rfl
   have hok := hrok.op
   cases hopr : r.op with
   | light l => rw [hopr] at hv; simp [COp.isHeavy] at hv
   | alloc A => rw [hopr] at hv; simp [COp.isHeavy] at hv
   | heavy hh =>
    rw [hopr] at hrun hok
    simp only [COp.step] at hrun
    cases hev : hh.eval w0 env st with
    | none => simp [hev] at hrun
    | some q =>
     obtain ⟨v, st'⟩ := q
     simp only [hev] at hrun
     refine wpOp_heavy ho hgw hok hev h.sim hop fun v' w' μ' hvv hs' hext hkeep => ?_
     refine fin v st' μ' v' w' hvv hs' hext hkeep hrun.2 ?_
     intro q j r' hq hq' hx l u hl hu
     by_cases hrd : l.readsHeap = false
     ·rw [eval_indep hrd (E q) st' st]; exact hu
     ·have hrd' : l.readsHeap = true := by simpa using hrd
      obtain ⟨o', ho', _⟩ := hL.rok q j r' hq'
      have hb := ahead q j r' hq hq' hx
      have hpair := hL.pair q n j i r' r o' o hq hq' hp' ho' ho
      rw [hb] at hpair
      have hmem := hpair.heavy rfl l hl hrd' hh hopr
      have hsame := hrun.1 l hmem u
      have hag : ∀ s, l.eval P w0 (E q) s = l.eval P w0 env s := fun s => eval_env (fun t ht => (h.agree q t hq (fun z k u' h1 h2 hz => by
       have hk := hL.keep q n z j i k r' r u' l h1 h2 hq' hp' hz hl hrd' (by rw [hopr]; rfl) hb
       intro hd; exact hk t hd ht)).symm) s
      rw [hag] at hu ⊢; exact hsame hu
   | call f args =>
    rw [hopr] at hrun hok
    simp only [COp.step] at hrun
    cases hev : evalC env f args with
    | none => simp [hev] at hrun
    | some q =>
     obtain ⟨g, vs⟩ := q
     simp only [hev] at hrun
     refine wpOp_call ho hgw hok hev hrun h.sim hop fun v v' w' μ' st' hq hvv hs' hext hkeep => ?_
     refine fin v st' μ' v' w' hvv hs' hext hkeep hq.2 ?_
     intro q j r' hq1 hq' hx l u hl hu
     by_cases hrd : l.readsHeap = false
     ·rw [eval_indep hrd (E q) st' st]; exact hu
     ·have hrd' : l.readsHeap = true := by simpa using hrd
      obtain ⟨o', ho', _⟩ := hL.rok q j r' hq'
      have hpair := hL.pair q n j i r' r o' o hq1 hq' hp' ho' ho
      have hb := ahead q j r' hq1 hq' hx
      rw [hb] at hpair
      obtain ⟨hquiet, hmem⟩ := hpair.call rfl l hl hrd' f args hopr
      rcases hq.1 hquiet with hle | hks
      ·exact eval_le hle (fun b hb => (h.sim.fresh b hb).2) hu
      ·have hsame := hks l hmem u
       have hag : ∀ s, l.eval P w0 (E q) s = l.eval P w0 env s := fun s => eval_env (fun t ht => (h.agree q t hq1 (fun z k u' h1 h2 hz => by
        have hk := hL.keep q n z j i k r' r u' l h1 h2 hq' hp' hz hl hrd' (by rw [hopr]; rfl) hb
        intro hd; exact hk t hd ht)).symm) s
       rw [hag] at hu ⊢; exact hsame hu

end
end Go.Proofs.YtnphhelbianjpaaGreatDoor.V
namespace Go.Proofs.YtnphhelbianjpaaGreatDoor.V
open Go Go.RowKit

section
variable {P : Program} {w0 : World} {N : Nat} {ops : Array Oper} {L : List (Nat × ROp)} {K : Env → St → Prop} {μ0 : Mp} {st0 : St}

theorem Inv.goes (hL : SchedOk P N ops L) {n : Nat} {X : Nat → Prop} {E : Nat → Env} {V : Nat → Value} {B : Nat → Nat} {env : Env} {st : St} {μ : Mp} {a : Act} {w : World}
  (h : Inv P w0 N ops L K μ0 st0 n X E V B env st μ a w) (hall : ∀ i, i < ops.size → X i) : Goes P w0 N K μ0 st0 a w := by
 have hX : ∀ (p i : Nat) (r : ROp), L[p]? = some (i, r) → X i := by
  intro p i r hp
  obtain ⟨o, ho, _⟩ := hL.rok p i r hp
  exact hall i (Array.getElem?_eq_some_iff.1 ho).1
 have hnil : L.drop n = [] := by
  rw [List.drop_eq_nil_iff]
  rcases Nat.lt_or_ge n L.length with hlt | hge
  ·obtain ⟨i, r⟩ : Nat × ROp := L[n]
   have hn : L[n]? = some (L[n].1, L[n].2) := by simp [hlt]
   obtain ⟨p, r', k1, k2⟩ := h.done _ (hX n _ _ hn)
   have := hL.one p n _ _ _ k2 hn
   omega
  ·exact hge
 have hrun := h.run
 rw [hnil] at hrun
 exact ⟨env, st, μ, hrun, h.sim, ⟨h.size, fun t u hu => h.cur t u hu (fun p i r _ hp _ => hX p i r hp)⟩, h.dfr, h.ext, h.kp⟩

theorem Inv.ahead_to (hL : SchedOk P N ops L) {X : Nat → Prop} {μ : Mp} {a : Act} {w : World} : ∀ (k n : Nat) (E : Nat → Env) (V : Nat → Value) (B : Nat → Nat) (env : Env) (st : St),
  Inv P w0 N ops L K μ0 st0 n X E V B env st μ a w → (∀ z, n ≤ z → z < n + k → ∃ i r, L[z]? = some (i, r) ∧ ¬ X i ∧ r.op.isHeavy = false) →
  ∃ E V B env st, Inv P w0 N ops L K μ0 st0 (n + k) X E V B env st μ a w := by
 intro k
 induction k with
 | zero => intro n E V B env st h _; exact ⟨E, V, B, env, st, h⟩
 | succ k ih =>
  intro n E V B env st h hz
  obtain ⟨i, r, h1, h2, h3⟩ := hz n (Nat.le_refl _) (by omega)
  obtain ⟨E', V', B', env', st', h'⟩ := h.ahead hL h1 h2 h3
  have := ih (n + 1) E' V' B' env' st' h' (fun z hz1 hz2 => hz z (by omega) (by omega))
  rw [show n + 1 + k = n + (k + 1) by omega] at this
  exact this

def listedX (listed : Array Bool) : Nat → Prop := fun i => listed.getD i false = true

theorem listed_set (listed : Array Bool) {i : Nat} (hi : i < listed.size) : (fun j => j = i ∨ listedX listed j) = listedX (listed.setIfInBounds i true) := by
 funext j
 apply propext
 simp only [listedX, Array.getD_eq_getD_getElem?, Array.getElem?_setIfInBounds]
 by_cases e : i = j
 ·subst e; simp [hi]
 ·simp [e, Ne.symm e]

theorem sched (hL : SchedOk P N ops L) {Q : Exit → Act → World → Prop} (hq : ∀ a' w', Goes P w0 N K μ0 st0 a' w' → Q .normal a' w') :
  ∀ (fuel : Nat) (listed : Array Bool) (n : Nat) (E : Nat → Env) (V : Nat → Value) (B : Nat → Nat) (env : Env) (st : St) (μ : Mp) (a : Act) (w : World),
  listed.size = ops.size → listed.toList.countP (fun b => !b) ≤ fuel → Inv P w0 N ops L K μ0 st0 n (listedX listed) E V B env st μ a w → wpAny P .any ops Q fuel listed a w := by
 have fin : ∀ (listed : Array Bool) (n : Nat) (E : Nat → Env) (V : Nat → Value) (B : Nat → Nat) (env : Env) (st : St) (μ : Mp) (a : Act) (w : World),
   listed.size = ops.size → Region.ready .any ops listed = [] → Inv P w0 N ops L K μ0 st0 n (listedX listed) E V B env st μ a w → Q .normal a w := by
  intro listed n E V B env st μ a w hsz hready h
  refine hq a w (h.goes hL ?_)
  intro i
  induction i using Nat.strongRecOn with
  | _ i ih =>
   intro hi
   by_cases hx : listedX listed i
   ·exact hx
   ·exfalso
    have hi' : i < listed.size := by omega
    have hfalse : listed[i] = false := by
     simp only [listedX, Array.getD_eq_getD_getElem?, Array.getElem?_eq_getElem hi', Option.getD_some] at hx
     simpa using hx
    have : i ∈ Region.ready .any ops listed := by
     simp only [Region.ready, List.mem_filter, List.mem_range]
     refine ⟨hi, ?_⟩
     simp only [Bool.and_eq_true]
     refine ⟨by simp [Array.getD_eq_getD_getElem?, hi', hfalse], ?_⟩
     rw [Array.getElem?_eq_getElem hi]
     simp only [Option.map_some, Option.getD_some, Array.all_eq_true_iff_forall_mem]
     intro e he
     by_cases hb : Region.binds .any e = true
     ·have hlt := hL.back i ops[i] (by simp [hi]) e (by simpa using he) hb
      have := ih e.on hlt (by omega)
      simp only [listedX] at this
      simp [this]
     ·simp [hb]
    rw [hready] at this
    cases this
 intro fuel
 induction fuel with
 | zero =>
  intro listed n E V B env st μ a w hsz hcount h
  have hready : Region.ready .any ops listed = [] := by
   rw [List.eq_nil_iff_forall_not_mem]
   intro i hi
   simp only [Region.ready, List.mem_filter, List.mem_range, Bool.and_eq_true] at hi
   obtain ⟨h1, h2, _⟩ := hi
   have hi' : i < listed.size := by omega
   have hc : listed.toList.countP (fun b => !b) = 0 := by omega
   rw [List.countP_eq_zero] at hc
   have := hc listed[i] (by simp)
   simp [Array.getD_eq_getD_getElem?, hi'] at h2 this
   rw [h2] at this; cases this
  exact ⟨hready, fin listed n E V B env st μ a w hsz hready h⟩
 | succ fuel ih =>
  intro listed n E V B env st μ a w hsz hcount h
  refine ⟨fun hready => fin listed n E V B env st μ a w hsz hready h, ?_⟩
  intro i hi
  simp only [Region.ready, List.mem_filter, List.mem_range, Bool.and_eq_true] at hi
  obtain ⟨h1, h2, h3⟩ := hi
  have hi' : i < listed.size := by omega
  have hfalse : listed[i] = false := by simpa [Array.getD_eq_getD_getElem?, hi'] using h2
  have hx : ¬ listedX listed i := by simp [listedX, Array.getD_eq_getD_getElem?, hi', hfalse]
  have hready : ∀ o, ops[i]? = some o → ∀ e ∈ o.after.toList, Region.binds .any e = true → listedX listed e.on := by
   intro o ho e he hb
   rw [ho] at h3
   simp only [Option.map_some, Option.getD_some, Array.all_eq_true_iff_forall_mem] at h3
   have := h3 e (by simpa using he)
   simp only [hb, Bool.not_true, Bool.false_or] at this
   exact this
  have hcount' : (listed.setIfInBounds i true).toList.countP (fun b => !b) ≤ fuel := by
   rw [Array.toList_setIfInBounds, List.countP_set (by simpa using hi')]
   have hpos : 0 < listed.toList.countP (fun b => !b) := by
    rw [List.countP_pos_iff]
    exact ⟨listed[i], by simp, by simp [hfalse]⟩
   have hp1 : (!(listed.toList[i]'(by simpa using hi'))) = true := by simp [hfalse]
   rw [if_pos hp1, if_neg (by simp)]
   omega
  have hsz' : (listed.setIfInBounds i true).size = ops.size := by simpa using hsz
  -- what follows once the operation is done
  have go : ∀ n E V B env st μ a' w', Inv P w0 N ops L K μ0 st0 n (fun j => j = i ∨ listedX listed j) E V B env st μ a' w' →
    wpAny P .any ops Q fuel (listed.setIfInBounds i true) a' w' := by
   intro n E V B env st μ a' w' hinv
   rw [listed_set listed hi'] at hinv
   exact ih _ n E V B env st μ a' w' hsz' hcount' hinv
  obtain ⟨p, r, hp⟩ := hL.all i h1
  have exec : ∀ n E V B env st μ, p < n → Inv P w0 N ops L K μ0 st0 n (listedX listed) E V B env st μ a w → wpOp P ops Q i (wpAny P .any ops Q fuel (listed.setIfInBounds i true)) a w := by
   intro n E V B env st μ hpn hinv
   exact hinv.exec hL hpn hp hx hready (fun μ' a' w' hinv' => go n E V B env st μ' a' w' hinv')
  by_cases hpn : p < n
  ·exact exec n E V B env st μ hpn h
  ·-- the abstract run goes ahead
   have hmid : ∀ z, n ≤ z → z < n + (p - n) → ∃ j r', L[z]? = some (j, r') ∧ ¬ listedX listed j ∧ r'.op.isHeavy = false := by
    intro z hz1 hz2
    have hzp : z < p := by omega
    have hplen : p < L.length := (List.getElem?_eq_some_iff.1 hp).1
    have hz : L[z]? = some (L[z].1, L[z].2) := by simp [Nat.lt_trans hzp hplen]
    refine ⟨_, _, hz, ?_, ?_⟩
    ·intro hxz
     obtain ⟨q, r', k1, k2⟩ := h.done _ hxz
     have := hL.one q z _ _ _ k2 hz
     omega
    ·obtain ⟨o, ho, _⟩ := hL.rok p i r hp
     obtain ⟨o', ho', _⟩ := hL.rok z _ _ hz
     have hpair := hL.pair z p _ i _ r o' o hzp hz hp ho' ho
     cases hb : bit ((ancM ops.toList []).getD i 0) L[z].1 with
     | false => rw [hb] at hpair; exact hpair.light rfl
     | true =>
      exfalso
      have hxz : listedX listed L[z].1 := by
       refine anc_done h.closed hready hb ?_
       intro e
       have := hL.one z p i L[z].2 r (by rw [← e]; exact hz) hp
       omega
      obtain ⟨q, r', k1, k2⟩ := h.done _ hxz
      have := hL.one q z _ _ _ k2 hz
      omega
   obtain ⟨E1, V1, B1, env1, st1, hinv⟩ := Inv.ahead_to hL (p - n) n E V B env st h hmid
   rw [show n + (p - n) = p by omega] at hinv
   cases hh : r.op.isHeavy with
   | true =>
    exact hinv.execH hL hp hh hx hready (fun env' st' μ' a' w' hinv' => go _ _ _ _ env' st' μ' a' w' hinv')
   | false =>
    obtain ⟨E2, V2, B2, env2, st2, hinv2⟩ := hinv.ahead hL hp hx hh
    exact exec (p + 1) E2 V2 B2 env2 st2 μ (Nat.lt_succ_self _) hinv2

theorem region_drawn (hL : SchedOk P N ops L) (hm : P.follows .mixedOrders = true) {env : Env} {a : Act} {w : World} {id : Nat} {Q : Exit → Act → World → Prop}
  (hw : wpR P w0 (L.map (·.2)) K env st0) (hs : Sim P w0 μ0 st0 w) (he : EnvRel P w0.heap.size N μ0 env a.tmps) (hd : a.defers = [])
  (hq : ∀ a' w', Goes P w0 N K μ0 st0 a' w' → Q .normal a' w') : (Code.region id ops true).wp P Q a w := by
 refine wp_region_any hm ?_
 have hnone : ∀ i, ¬ listedX (Array.replicate ops.size false) i := by
  intro i h
  simp only [listedX, Array.getD_eq_getD_getElem?, Array.getElem?_replicate] at h
  split at h <;> simp at h
 refine sched hL hq ops.size _ 0 (fun _ => []) (fun _ => undef) (fun _ => 0) env st0 μ0 a w.drew (by simp) (by simp [List.countP_replicate]) ?_
 refine ⟨by simpa using hw, hs.drew, Ext.refl _, Keep.refl _ _, hd, he.size, ?_, ?_, ?_, ?_, ?_, ?_, ?_, ?_, ?_, ?_, ?_⟩
 ·intro i h; exact absurd h (hnone i)
 ·intro i h; exact absurd h (hnone i)
 ·intro p i r h; omega
 ·intro p i r h; omega
 ·intro p q i j r r' h h'; omega
 ·intro p i r h; omega
 ·intro t u hu _; exact he.rel t u hu
 ·intro p i r o h; omega
 ·intro p i r d h; omega
 ·intro p q i r d h h'; omega
 ·intro p t h; omega

end
end Go.Proofs.YtnphhelbianjpaaGreatDoor.V
