/-
  The abstract semantics 'V', part 15: code, functions, calls.
-/
import Derived.Test.YtnndjlgkhfinjaaV14
set_option linter.all false
set_option linter.unusedSimpArgs false
set_option linter.unusedVariables false
set_option linter.unnecessarySimpa false
namespace Go.Proofs.Ytnndjlgkhfinjaa.V
open Go Go.RowKit

inductive S where
  | nop
  | seq (a b : S)
  | cond (c : Operand) (a b : S)
  | block (id : Nat) (a : S)
  | loop (a : S)
  | exit (id : Nat)
  | ret
  | reg (rs : List ROp)

/-- A function: how many parameters, its code, its results: a temporary, or so many cells behind one. -/
structure FS where
  params : Nat
  body : S
  results : List (Nat × Option (Nat × Bool))

section
variable (P : Program) (w0 : World)

def bool? : Value → Option Bool
  | .bool b => some b
  | _ => none

def thenE (K : Env → St → Prop) (Q : Exit → Env → St → Prop) : Exit → Env → St → Prop
  | .normal, env, st => K env st
  | e, env, st => Q e env st

def inBlockE (id : Nat) (Q : Exit → Env → St → Prop) : Exit → Env → St → Prop
  | .exit id', env, st => if id' = id then Q .normal env st else Q (.exit id') env st
  | e, env, st => Q e env st

def iterS (f : (Exit → Env → St → Prop) → Env → St → Prop) (Q : Exit → Env → St → Prop) : Nat → Env → St → Prop
  | 0, _, _ => False
  | n + 1, env, st => f (thenE (iterS f Q n) Q) env st

def wpS : S → (Exit → Env → St → Prop) → Env → St → Prop
  | .nop, Q, env, st => Q .normal env st
  | .seq a b, Q, env, st => wpS a (thenE (wpS b Q) Q) env st
  | .cond c a b, Q, env, st => guardV ((evalO env c).bind bool?) (wpS a Q env st) (wpS b Q env st)
  | .block id a, Q, env, st => wpS a (inBlockE id Q) env st
  | .loop a, Q, env, st => ∃ n, iterS (wpS a) Q n env st
  | .exit id, Q, env, st => Q (.exit id) env st
  | .ret, Q, env, st => Q .ret env st
  | .reg rs, Q, env, st => wpR P w0 rs (Q .normal) env st

def resOne (env : Env) (st : St) : Nat × Option (Nat × Bool) → Option Value
  | (t, none) => env.lookup t
  | (t, some (n, agg)) => match env.lookup t with
    | some (.pointer (some a)) => match cellsAt w0 st a n with
      | some cs => partOf agg cs
      | none => none
    | _ => none

def resAll (env : Env) (st : St) : List (Nat × Option (Nat × Bool)) → Option (List Value)
  | [] => some []
  | r :: rs => match resOne w0 env st r, resAll env st rs with
    | some v, some l => some (v :: l)
    | _, _ => none

def resV : List Value → Value
  | [v] => v
  | vs => .tuple vs.toArray

def retQ (rs : List (Nat × Option (Nat × Bool))) (Q : Value → St → Prop) : Exit → Env → St → Prop
  | .normal, env, st | .ret, env, st => match resAll w0 env st rs with
    | some vs => Q (resV vs) st
    | none => False
  | _, _, _ => False

/-- The function's arguments lie in its first temporaries. -/
def argEnv : Nat → List Value → Env
  | _, [] => []
  | i, v :: r => (i, v) :: argEnv (i + 1) r

def comp (N : Nat) : Code → Option S
  | .skip => some .nop
  | .region _ ops draw => (cregion P N ops draw).map .reg
  | .seq a b => match comp N a, comp N b with
    | some a, some b => some (.seq a b)
    | _, _ => none
  | .cond c a b => match comp N a, comp N b with
    | some a, some b => some (.cond c a b)
    | _, _ => none
  | .block id a => (comp N a).map (.block id)
  | .loop a => (comp N a).map .loop
  | .exit id => some (.exit id)
  | .ret => some .ret
  | _ => none

def compR : List ResultVar → Option (List (Nat × Option (Nat × Bool)))
  | [] => some []
  | .tmp t :: r => (compR r).map ((t, none) :: ·)
  | .cell a t :: r => match tyAgg P t, compR r with
    | some (b, n), some l => some ((a, some (if b then n else 1, b)) :: l)
    | _, _ => none

def compF (fn : Func) : Option FS :=
  match fn.body with
  | some c => match comp P fn.ntmps c, compR P fn.results.toList with
    | some s, some r => if fn.params.size ≤ fn.ntmps then some ⟨fn.params.size, s, r⟩ else none
    | _, _ => none
  | none => none

variable {P w0} {N : Nat}

/-- The abstract run of code tells of the model's. -/
def Wp (P : Program) (w0 : World) (N : Nat) (c : Code) (Q : Exit → Env → St → Prop) (env : Env) (st : St) : Prop :=
  ∀ (μ : Mp) (w : World) (a : Act), Sim P w0 μ st w → EnvRel P w0.heap.size N μ env a.tmps → a.defers = [] →
    c.wp P (fun e a' w' => Goes P w0 N (Q e) μ st a' w') a w

theorem mixed (hm : P.follows .mixedOrders = true) {c : Code} {s : S} (hc : comp P N c = some s) {Q : Exit → Env → St → Prop} {env : Env} {st : St} (h : wpS P w0 s Q env st) : Wp P w0 N c Q env st := by
  induction c generalizing s Q env st with
  | skip =>
    cases hc
    intro μ w a hs he hd
    exact wp_skip ⟨env, st, μ, h, hs, he, hd, Ext.refl _, Keep.refl _ _⟩
  | ret =>
    cases hc
    intro μ w a hs he hd
    exact wp_ret ⟨env, st, μ, h, hs, he, hd, Ext.refl _, Keep.refl _ _⟩
  | exit id =>
    cases hc
    intro μ w a hs he hd
    exact wp_exit ⟨env, st, μ, h, hs, he, hd, Ext.refl _, Keep.refl _ _⟩
  | region id ops draw =>
    simp only [comp] at hc
    cases hr : cregion P N ops draw with
    | none => simp [hr] at hc
    | some rs =>
      simp only [hr, Option.map_some, Option.some.injEq] at hc
      subst hc
      intro μ w a hs he hd
      simp only [wpS] at h
      unfold cregion at hr
      split at hr
      · cases hr
      · rename_i rs0 hrs0
        cases draw with
        | false =>
          simp only [Bool.false_eq_true, if_false, Option.some.injEq] at hr
          subst hr
          obtain ⟨hlen, hok⟩ := ropsOf_ok _ _ hrs0
          refine wp_region ?_
          refine region_text (List.range ops.size) rs0 μ st env a w ?_ h hs he hd (fun a' w' hg => hg)
          have hlen' : rs0.length = ops.size := by simpa using hlen
          have key : ∀ (k : Nat) (l : List ROp), l.length = ops.size - k → k ≤ ops.size → (∀ j r, l[j]? = some r → rs0[k + j]? = some r) →
              All2 (fun i r => ∃ o, ops[i]? = some o ∧ ROk P N ops o r) (List.range' k (ops.size - k)) l := by
            intro k l
            induction l generalizing k with
            | nil => intro hl hk _; rw [← hl]; exact .nil
            | cons r l ih =>
              intro hl hk hj
              have hlt : k < ops.size := by simp at hl; omega
              rw [show ops.size - k = (ops.size - (k + 1)) + 1 by omega, List.range'_succ]
              refine .cons ?_ ?_
              · exact ⟨ops[k], by simp [hlt], hok k ops[k] r (by simp [hlt]) (by simpa using hj 0 r rfl)⟩
              · refine ih (k + 1) (by simp at hl; omega) hlt ?_
                intro j r' hr'
                have := hj (j + 1) r' (by simpa using hr')
                rw [show k + 1 + j = k + (j + 1) by omega]; exact this
          have := key 0 rs0 (by simpa using hlen') (Nat.zero_le _) (by simp)
          simpa [List.range_eq_range'] using this
        | true =>
          simp only [if_true] at hr
          split at hr
          · rename_i L hL
            split at hr
            · rename_i hb
              cases hr
              exact region_drawn (sched_ok hrs0 hL hb) hm h hs he hd (fun a' w' hg => hg)
            · cases hr
          · cases hr
  | seq a b iha ihb =>
    simp only [comp] at hc
    split at hc
    · rename_i sa sb ha hb
      cases hc
      intro μ w act hs he hd
      simp only [wpS] at h
      refine wp_seq (wp_mono (iha ha h μ w act hs he hd) ?_)
      rintro e a' w' ⟨env', st', μ', hq, hs', he', hd', hext, hkeep⟩
      cases e with
      | normal =>
        refine wp_mono (ihb hb hq μ' w' a' hs' he' hd') ?_
        intro e a'' w'' hg
        exact hg.pre hext hkeep
      | _ => exact ⟨env', st', μ', hq, hs', he', hd', hext, hkeep⟩
    · cases hc
  | cond c a b iha ihb =>
    simp only [comp] at hc
    split at hc
    · rename_i sa sb ha hb
      cases hc
      intro μ w act hs he hd
      simp only [wpS] at h
      cases hcv : evalO env c with
      | none => rw [hcv] at h; exact h.elim
      | some u =>
        rw [hcv] at h
        cases u with
        | bool t =>
          cases t with
          | true => exact wp_cond_true (he.eval hcv).bool_eq (iha ha (h.1 rfl) μ w act hs he hd)
          | false => exact wp_cond_false (he.eval hcv).bool_eq (ihb hb (h.2 rfl) μ w act hs he hd)
        | _ => exact h.elim
    · cases hc
  | block id a ih =>
    simp only [comp] at hc
    cases ha : comp P N a with
    | none => simp [ha] at hc
    | some sa =>
      simp only [ha, Option.map_some, Option.some.injEq] at hc
      subst hc
      intro μ w act hs he hd
      simp only [wpS] at h
      refine wp_block (wp_mono (ih ha h μ w act hs he hd) ?_)
      rintro e a' w' ⟨env', st', μ', hq, rest⟩
      cases e with
      | exit id' =>
        simp only [Exit.inBlock]
        simp only [inBlockE] at hq
        split
        · rename_i e; rw [if_pos e] at hq; exact ⟨env', st', μ', hq, rest⟩
        · rename_i e; rw [if_neg e] at hq; exact ⟨env', st', μ', hq, rest⟩
      | _ => exact ⟨env', st', μ', hq, rest⟩
  | loop a ih =>
    simp only [comp] at hc
    cases ha : comp P N a with
    | none => simp [ha] at hc
    | some sa =>
      simp only [ha, Option.map_some, Option.some.injEq] at hc
      subst hc
      intro μ w act hs he hd
      simp only [wpS] at h
      obtain ⟨n, hn⟩ := h
      refine wp_loop_ghost (fun n a' w' => Goes P w0 N (iterS (wpS P w0 sa) Q n) μ st a' w') n ⟨env, st, μ, hn, hs, he, hd, Ext.refl _, Keep.refl _ _⟩ ?_
      rintro n a' w' ⟨env', st', μ', hq, hs', he', hd', hext, hkeep⟩
      cases n with
      | zero => exact hq.elim
      | succ n =>
        simp only [iterS] at hq
        refine wp_mono (ih ha hq μ' w' a' hs' he' hd') ?_
        intro e a'' w'' hg
        have hg := hg.pre hext hkeep
        cases e with
        | normal => exact ⟨n, Nat.lt_succ_self _, hg⟩
        | _ => exact hg
  | _ => simp [comp] at hc

theorem argEnv_lookup : ∀ (args : List Value) (i t : Nat), (argEnv i args).lookup t = if i ≤ t then args[t - i]? else none := by
  intro args
  induction args with
  | nil => intro i t; simp [argEnv]
  | cons v args ih =>
    intro i t
    simp only [argEnv, lookup_cons]
    by_cases e : t = i
    · subst e; simp
    · rw [if_neg e, ih]
      by_cases h : i ≤ t
      · rw [if_pos (by omega), if_pos h, show t - i = (t - (i + 1)) + 1 by omega]; simp
      · rw [if_neg (by omega), if_neg h]

theorem resAll_sound {μ : Mp} {st : St} {w : World} (hs : Sim P w0 μ st w) {env : Env} {tmps : Array Value} (he : EnvRel P w0.heap.size N μ env tmps) :
    ∀ (rv : List ResultVar) (rs : List (Nat × Option (Nat × Bool))) (vs : List Value), compR P rv = some rs → resAll w0 env st rs = some vs →
    ∃ vs', (rv.mapM (fun | .tmp t => pure (tmps.getD t undef) | .cell a t => do loadVar t (← asAddr (tmps.getD a undef)) : ResultVar → Sem Value)).run P w = .ok vs' w ∧
      RelArgs P w0.heap.size μ vs vs' := by
  intro rv
  induction rv with
  | nil =>
    intro rs vs hc hr
    cases hc; cases hr
    exact ⟨[], rfl, rfl, by simp⟩
  | cons r rv ih =>
    intro rs vs hc hr
    have fin : ∀ (x : Nat × Option (Nat × Bool)) (rs' : List (Nat × Option (Nat × Bool))), rs = x :: rs' → compR P rv = some rs' →
        (∀ v, resOne w0 env st x = some v → ∃ v', ((match r with | .tmp t => pure (tmps.getD t undef) | .cell a t => do loadVar t (← asAddr (tmps.getD a undef))) : Sem Value).run P w = .ok v' w ∧ VRel P w0.heap.size μ v v') →
        ∃ vs', ((r :: rv).mapM (fun | .tmp t => pure (tmps.getD t undef) | .cell a t => do loadVar t (← asAddr (tmps.getD a undef)) : ResultVar → Sem Value)).run P w = .ok vs' w ∧ RelArgs P w0.heap.size μ vs vs' := by
      intro x rs' hrs hrv hone
      subst hrs
      simp only [resAll] at hr
      split at hr
      · rename_i v l h1 h2
        cases hr
        obtain ⟨v', k1, k2⟩ := hone v h1
        obtain ⟨vs', k3, k4⟩ := ih rs' l hrv h2
        refine ⟨v' :: vs', ?_, by simp [k4.len], ?_⟩
        · simp only [List.mapM_cons, Sem.run_bind, Sem.run_pure]
          rw [k1]
          simp only [Result.andThen_ok, k3]
        · intro j a b ha hb
          cases j with
          | zero => simp at ha hb; subst ha; subst hb; exact k2
          | succ j => exact k4.rel j a b (by simpa using ha) (by simpa using hb)
      · cases hr
    cases r with
    | tmp t =>
      simp only [compR] at hc
      cases hrv : compR P rv with
      | none => simp [hrv] at hc
      | some rs' =>
        simp only [hrv, Option.map_some, Option.some.injEq] at hc
        refine fin _ _ hc.symm hrv ?_
        intro v hv
        simp only [resOne] at hv
        obtain ⟨v', h1, h2⟩ := he.rel t v hv
        exact ⟨v', by simp [Array.getD_eq_getD_getElem?, h1], h2⟩
    | cell ad t =>
      simp only [compR] at hc
      split at hc
      · rename_i b n l ht hl
        cases hc
        refine fin _ _ rfl hl ?_
        intro v hv
        simp only [resOne] at hv
        split at hv
        · rename_i a0 ha0
          split at hv
          · rename_i cs hcs
            obtain ⟨v', h1, h2⟩ := he.rel ad _ ha0
            have e1 : tmps.getD ad undef = v' := by simp [Array.getD_eq_getD_getElem?, h1]
            obtain ⟨u, hrun, hrel⟩ := load_part hs h2 ht hcs hv
            obtain ⟨a', rfl⟩ : ∃ a', v' = .pointer (some a') := by
              rcases h2.ptr_inv with ⟨rfl, _⟩ | ⟨m, _, _, rfl⟩ <;> exact ⟨_, rfl⟩
            refine ⟨u, ?_, hrel⟩
            simp only [e1, asAddr, pure_bind]
            simpa [Instr.loadAt, Instr.sureAddr] using hrun
          · cases hv
        · cases hv
      · cases hc

/-- A call of a function of the program: its compiled code tells what it comes to. -/
theorem DCalls.of (hm : P.follows .mixedOrders = true) {f : FuncId} {fn : Func} (hf : P.funcs[f]? = some fn) (hname : (fn.name == "runtime.NumGoroutine") = false) {fs : FS} (hc : compF P fn = some fs)
    {args : List Value} (hl : args.length = fs.params) {st : St} {Q : Value → St → Prop} (h : wpS P w0 fs.body (retQ w0 fs.results Q) (argEnv 0 args) st) : DCalls P w0 f args st Q := by
  unfold compF at hc
  split at hc
  · rename_i c hbody
    split at hc
    · rename_i s r hs hr
      split at hc
      · rename_i hpar
        cases hc
        refine ⟨⟨fn, hf, by rw [hbody]; rfl, hname⟩, ?_⟩
        intro μ w args' hsim hrel
        refine calls_of_wp hf hbody ?_
        have hlen : args'.toArray.size = args.length := by simp [hrel.len]
        have hle : args.length ≤ fn.ntmps := by rw [hl]; exact hpar
        have henv : EnvRel P w0.heap.size fn.ntmps μ (argEnv 0 args) (args'.toArray ++ Array.replicate (fn.ntmps - args'.toArray.size) undef) := by
          refine ⟨by simp at hlen ⊢; omega, ?_⟩
          intro t v ht
          rw [argEnv_lookup] at ht
          simp only [Nat.zero_le, if_true, Nat.sub_zero] at ht
          have hlt : t < args'.length := by rw [← hrel.len]; exact (List.getElem?_eq_some_iff.1 ht).1
          refine ⟨args'[t], ?_, hrel.rel t v _ ht (by simp [hlt])⟩
          rw [Array.getElem?_append_left (by simpa using hlt)]
          simp [hlt]
        refine wp_mono (mixed hm hs h μ w _ hsim henv rfl) ?_
        rintro e a w' ⟨env', st', μ', hq, hs', he', hd', hext, hkeep⟩
        have fin : (match resAll w0 env' st' r with | some vs => Q (resV vs) st' | none => False) → a.defers = [] ∧ ∃ v, (results fn a.tmps).run P w' = .ok v w' ∧
            ∃ v0 v' st'' μ'', Ending.returned v = .returned v' ∧ VRel P w0.heap.size μ'' v0 v' ∧ Q v0 st'' ∧ Sim P w0 μ'' st'' w' ∧ Ext μ μ'' ∧ Keep μ st μ'' st'' := by
          intro hres
          refine ⟨hd', ?_⟩
          split at hres
          · rename_i vs hvs
            obtain ⟨vs', k1, k2⟩ := resAll_sound hs' he' fn.results.toList r vs hr hvs
            have hm : (fn.results.mapM (fun | .tmp t => pure (a.tmps.getD t undef) | .cell ad t => do loadVar t (← asAddr (a.tmps.getD ad undef)) : ResultVar → Sem Value)).run P w' = .ok vs'.toArray w' := by
              rw [Array.mapM_eq_mapM_toList]
              simp only [Sem.run_map]
              rw [k1]; rfl
            refine ⟨if h : vs'.toArray.size = 1 then vs'.toArray[0] else .tuple vs'.toArray, ?_, resV vs, _, st', μ', rfl, ?_, hres, hs', hext, hkeep⟩
            · unfold results
              rw [Sem.run_bind]
              exact Eq.trans (congrArg (fun (r : Result (Array Value)) => r.andThen (fun (vs : Array Value) w' => Sem.run P (pure (if h : vs.size = 1 then vs[0] else Value.tuple vs)) w')) hm) rfl
            · match vs, vs', k2 with
              | [], vs', k2 =>
                have : vs' = [] := by have := k2.len; simp at this; exact List.length_eq_zero_iff.1 this.symm
                subst this
                exact VRel.undef
              | [v], vs', k2 =>
                match vs', k2 with
                | [v'], k2 => exact k2.rel 0 v v' rfl rfl
                | [], k2 => have := k2.len; simp at this
                | _ :: _ :: _, k2 => have := k2.len; simp at this
              | v1 :: v2 :: vs, vs', k2 =>
                have hne : ¬ vs'.toArray.size = 1 := by have := k2.len; simp at this ⊢; omega
                rw [dif_neg hne]
                simp only [resV]
                exact .tuple _ _ (by simpa using k2.len) (fun i x y hx hy => k2.rel i x y (by simpa using hx) (by simpa using hy))
          · exact hres.elim
        cases e with
        | normal => exact fin hq
        | ret => exact fin hq
        | _ => exact hq.elim
      · cases hc
    · cases hc
  · cases hc

end
end Go.Proofs.Ytnndjlgkhfinjaa.V
