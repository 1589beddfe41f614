/-
  The abstract semantics 'V', part 9: calls, regions in the order of the text.
-/
import Derived.Test.YtnndjlgkhfinjaaV8
import Derived.Orders
set_option linter.all false
set_option linter.unusedSimpArgs false
set_option linter.unusedVariables false
set_option linter.unnecessarySimpa false
namespace Go.Proofs.Ytnndjlgkhfinjaa.V
open Go Go.RowKit

inductive COp where
  | light (l : LOp)
  | alloc (a : AOp)
  | heavy (h : HOp)
  | call (f : FuncId) (args : List Operand)

/-- An operation of a region: where its value goes, whether it is done, what it does; where it may be done ahead of reads that the text has behind it: what must not be touched. -/
structure ROp where
  dst : Option Nat
  guard : Option (Nat × Bool)
  op : COp
  quiet : Bool
  keeps : List LOp

def putE (d : Option Nat) (v : Value) (env : Env) : Env :=
  match d with
  | some d => (d, v) :: env
  | none => env

def guardOf (env : Env) : Option (Nat × Bool) → Option Bool
  | none => some true
  | some (t, want) => match env.lookup t with
    | some (.bool b) => some (b == want)
    | some (.tuple _) => some false
    | _ => none

def evalArgs (env : Env) : List Operand → Option (List Value)
  | [] => some []
  | x :: r => match evalO env x, evalArgs env r with
    | some v, some l => some (v :: l)
    | _, _ => none

section
variable (P : Program) (w0 : World)

/-- A function may be entered. -/
def Enters (f : FuncId) : Prop := ∃ fn, P.funcs[f]? = some fn ∧ fn.body.isSome = true ∧ (fn.name == "runtime.NumGoroutine") = false

structure RelArgs (n0 : Nat) (μ : Mp) (xs ys : List Value) : Prop where
  len : xs.length = ys.length
  rel : ∀ (j : Nat) (x y : Value), xs[j]? = some x → ys[j]? = some y → VRel P n0 μ x y

/-- What a call comes to, in the abstract semantics. -/
def DCalls (f : FuncId) (args : List Value) (st : St) (Q : Value → St → Prop) : Prop :=
  Enters P f ∧ ∀ (μ : Mp) (w : World) (args' : List Value), Sim P w0 μ st w → RelArgs P w0.heap.size μ args args' →
    Calls P f args'.toArray w fun e w' => ∃ v v' st' μ', e = .returned v' ∧ VRel P w0.heap.size μ' v v' ∧ Q v st' ∧ Sim P w0 μ' st' w' ∧ Ext μ μ' ∧ Keep μ st μ' st'

def COp.step (quiet : Bool) (keeps : List LOp) (env : Env) (st : St) (k : Value → St → Prop) : COp → Prop
  | .light l => match l.eval P w0 env st with
    | some v => k v st
    | none => False
  | .alloc a => match a.eval env with
    | some (bk, mk) => k (mk st.next) (st.alloc bk)
    | none => False
  | .heavy h => match h.eval w0 env st with
    | some (v, st') => (∀ l ∈ keeps, (l.eval P w0 env st).isSome = true ∧ l.eval P w0 env st' = l.eval P w0 env st) ∧ k v st'
    | none => False
  | .call f args => match evalArgs env args with
    | some vs => DCalls P w0 f vs st fun v st' => (quiet = true → st.le st') ∧ k v st'
    | none => False

/-- Two ways, by a test. -/
def guardV : Option Bool → Prop → Prop → Prop
  | some b, A, B => (b = true → A) ∧ (b = false → B)
  | none, _, _ => False

def wpR : List ROp → (Env → St → Prop) → Env → St → Prop
  | [], K, env, st => K env st
  | r :: rest, K, env, st => guardV (guardOf env r.guard) (r.op.step P w0 r.quiet r.keeps env st fun v st' => wpR rest K (putE r.dst v env) st') (wpR rest K (putE r.dst undef env) st)

def copC : Op → Option COp
  | .call c => match c.callee with
    | .value (.func f) => some (.call f c.args.toList)
    | _ => none
  | _ => none

def cop (op : Op) : Option COp :=
  match copL P op with
  | some l => some (.light l)
  | none => match copA P op with
    | some a => some (.alloc a)
    | none => match copH P op with
      | some h => some (.heavy h)
      | none => copC op

/-- What a compiled operation has to do with the model's. -/
def COk (o : Oper) : COp → Prop
  | .light l => copL P o.op = some l
  | .alloc a => copA P o.op = some a
  | .heavy h => copH P o.op = some h
  | .call f args => copC o.op = some (.call f args)

variable {P w0}

theorem cop_ok {o : Oper} {c : COp} (h : cop P o.op = some c) : COk P o c := by
  unfold cop at h
  split at h
  · cases h; assumption
  · split at h
    · cases h; assumption
    · split at h
      · cases h; assumption
      · have h' := h
        unfold copC at h
        split at h
        · split at h
          · cases h; exact h'
          · cases h
        · cases h

theorem DCalls.mono {f : FuncId} {args : List Value} {st : St} {Q Q' : Value → St → Prop} (h : DCalls P w0 f args st Q) (hq : ∀ v st', Q v st' → Q' v st') : DCalls P w0 f args st Q' :=
  ⟨h.1, fun μ w args' hs hr => (h.2 μ w args' hs hr).mono fun e w' ⟨v, v', st', μ', h1, h2, h3, h4⟩ => ⟨v, v', st', μ', h1, h2, hq _ _ h3, h4⟩⟩

theorem evalArgs_rel {μ : Mp} {env : Env} {a : Act} : ∀ (xs : List Operand) (vs : List Value), (∀ x ∈ xs, ∀ u, evalO env x = some u → VRel P w0.heap.size μ u (a.eval x)) → evalArgs env xs = some vs →
    RelArgs P w0.heap.size μ vs (xs.map a.eval) := by
  intro xs
  induction xs with
  | nil => intro vs _ h; cases h; exact ⟨rfl, by simp⟩
  | cons x xs ih =>
    intro vs hr h
    simp only [evalArgs] at h
    cases h1 : evalO env x with
    | none => simp [h1] at h
    | some v =>
      cases h2 : evalArgs env xs with
      | none => simp [h1, h2] at h
      | some l =>
        simp only [h1, h2] at h
        cases h
        have := ih l (fun y hy => hr y (List.mem_cons_of_mem _ hy)) h2
        refine ⟨by simp [this.len], ?_⟩
        intro j a' b' ha hb
        cases j with
        | zero => simp at ha hb; subst ha; subst hb; exact hr x (List.mem_cons_self ..) v h1
        | succ j => exact this.rel j a' b' (by simpa using ha) (by simpa using hb)

/-- The operands of an operation are like the abstract ones. -/
def OpRel (P : Program) (n0 : Nat) (μ : Mp) (env : Env) (a : Act) (o : Oper) : Prop := ∀ x ∈ o.op.operands.toList, ∀ u, evalO env x = some u → VRel P n0 μ u (a.eval x)

variable {ops : Array Oper} {Q : Exit → Act → World → Prop} {i : Nat} {o : Oper} {K : Act → World → Prop} {a : Act} {w : World} {μ : Mp} {env : Env} {st : St}

theorem wpOp_skip (ho : ops[i]? = some o) (hw : Region.wanted o (yielded ops a.tmps) = false) (hk : K (a.put o.dst undef) w) : wpOp P ops Q i K a w := by
  simp only [wpOp, ho, hw, Bool.false_eq_true, if_false]; exact hk

theorem wpOp_light (ho : ops[i]? = some o) (hw : Region.wanted o (yielded ops a.tmps) = true) {l : LOp} (hc : copL P o.op = some l) {v : Value} (he : l.eval P w0 env st = some v)
    (hs : Sim P w0 μ st w) (hr : OpRel P w0.heap.size μ env a o) (hk : ∀ v', VRel P w0.heap.size μ v v' → K (a.put o.dst v') w) : wpOp P ops Q i K a w := by
  simp only [wpOp, ho, hw, if_true]
  obtain ⟨v', h1, h2⟩ := light_sound hc he hs hr
  left
  simp only [Oper.wp, h1, Oper.upon_value]
  exact hk v' h2

theorem wpOp_alloc (ho : ops[i]? = some o) (hw : Region.wanted o (yielded ops a.tmps) = true) {A : AOp} (hc : copA P o.op = some A) {bk : Blk} {mk : Nat → Value} (he : A.eval env = some (bk, mk))
    (hr : OpRel P w0.heap.size μ env a o) (hk : ∀ obj v', ObjRel P w0.heap.size μ bk obj → (∀ (μ' : Mp) (b : Nat), μ' b = some (locOf w.heap.size obj) → VRel P w0.heap.size μ' (mk b) v') →
      K (a.put o.dst v') (w.alloc obj)) : wpOp P ops Q i K a w := by
  simp only [wpOp, ho, hw, if_true]
  obtain ⟨obj, v', h1, h2, h3⟩ := alloc_sound (w := w) hc he hr
  left
  simp only [Oper.wp, h1, Oper.upon_value]
  exact hk obj v' h2 h3

theorem wpOp_heavy (ho : ops[i]? = some o) (hw : Region.wanted o (yielded ops a.tmps) = true) {h : HOp} (hc : copH P o.op = some h) {v : Value} {st' : St} (he : h.eval w0 env st = some (v, st'))
    (hs : Sim P w0 μ st w) (hr : OpRel P w0.heap.size μ env a o)
    (hk : ∀ v' w' μ', VRel P w0.heap.size μ' v v' → Sim P w0 μ' st' w' → Ext μ μ' → Keep μ st μ' st' → K (a.put o.dst v') w') : wpOp P ops Q i K a w := by
  simp only [wpOp, ho, hw, if_true]
  obtain ⟨r, v', w', μ', h1, h2, h3, h4, h5, h6⟩ := heavy_sound hc he hs hr
  left
  rcases h2 with rfl | ⟨rfl, rfl⟩
  · simp only [Oper.wp, h1, Oper.upon_value]
    exact hk v' w' μ' h3 h4 h5 h6
  · simp only [Oper.wp, h1, Oper.upon_skip]
    exact hk _ w' μ' h3 h4 h5 h6

theorem copC_eq {op : Op} {f : FuncId} {args : List Operand} (h : copC op = some (.call f args)) : ∃ tys, op = .call { callee := .value (.func f), args := args.toArray, argTypes := tys } := by
  cases op <;> simp only [copC] at h <;> try (cases h; done)
  rename_i c
  obtain ⟨callee, cargs, tys⟩ := c
  simp only at h
  split at h
  · cases h
    exact ⟨tys, rfl⟩
  · cases h

theorem wpOp_call (ho : ops[i]? = some o) (hw : Region.wanted o (yielded ops a.tmps) = true) {f : FuncId} {args : List Operand} (hc : copC o.op = some (.call f args)) {vs : List Value}
    (he : evalArgs env args = some vs) {QQ : Value → St → Prop} (hd : DCalls P w0 f vs st QQ) (hs : Sim P w0 μ st w) (hr : OpRel P w0.heap.size μ env a o)
    (hk : ∀ v v' w' μ' st', QQ v st' → VRel P w0.heap.size μ' v v' → Sim P w0 μ' st' w' → Ext μ μ' → Keep μ st μ' st' → K (a.put o.dst v') w') : wpOp P ops Q i K a w := by
  simp only [wpOp, ho, hw, if_true]
  left
  obtain ⟨tys, hop⟩ := copC_eq hc
  obtain ⟨fn, hf, hbody, hname⟩ := hd.1
  have hargs : RelArgs P w0.heap.size μ vs (args.map a.eval) := evalArgs_rel args vs (fun x hx u hu => hr x (by rw [hop]; simp [Op.operands, Call.operands, hx]) u hu) he
  have hb : fn.body ≠ none := by intro h; rw [h] at hbody; cases hbody
  have hname : fn.name ≠ "runtime.NumGoroutine" := by simpa using hname
  have hrun : (execOp a.eval o).run P w = .ok (.enter f (args.map a.eval).toArray) w := by
    obtain ⟨dst, op, type, pos, after, guard⟩ := o
    simp only at hop
    subst hop
    simp [execOp, resolve, Deferred.ofValue, Act.eval, invoke, callFunc, hf, hname, hb]
  simp only [Oper.wp, hrun, Oper.upon_enter]
  refine (hd.2 μ w _ hs hargs).mono ?_
  rintro e w' ⟨v, v', st', μ', rfl, h2, h3, h4, h5, h6⟩
  exact hk v v' w' μ' st' h3 h2 h4 h5 h6

end
end Go.Proofs.Ytnndjlgkhfinjaa.V
