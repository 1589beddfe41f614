/-
  The abstract semantics 'V', part 18: more may be known: what a temporary holds that is not looked at does not matter. Loops by what is alive at their heads.
-/
import Derived.Test.YtnndjlgkhfinjaaV17
set_option linter.all false
set_option linter.unusedSimpArgs false
set_option linter.unusedVariables false
set_option linter.unnecessarySimpa false
namespace Go.Proofs.Ytnndjlgkhfinjaa.V
open Go Go.RowKit

def Sub (a b : Env) : Prop := ∀ t v, a.lookup t = some v → b.lookup t = some v

theorem Sub.refl (a : Env) : Sub a a := fun _ _ h => h
theorem Sub.trans {a b c : Env} (h : Sub a b) (k : Sub b c) : Sub a c := fun t v e => k t v (h t v e)
theorem Sub.put {a b : Env} (h : Sub a b) (d : Nat) (v : Value) : Sub ((d, v) :: a) ((d, v) :: b) := by
  intro t u ht
  rw [lookup_cons] at ht ⊢
  split
  · rename_i e; rw [if_pos e] at ht; exact ht
  · rename_i e; rw [if_neg e] at ht; exact h t u ht
theorem Sub.nil (b : Env) : Sub [] b := fun t v h => by cases h
theorem Sub.cons {a b : Env} {d : Nat} {v : Value} (hd : b.lookup d = some v) (h : Sub a b) : Sub ((d, v) :: a) b := by
  intro t u ht
  rw [lookup_cons] at ht
  split at ht
  · rename_i e; cases ht; rw [e]; exact hd
  · exact h t u ht

section
variable {P : Program} {w0 : World} {a b : Env}

theorem evalO_sub (hs : Sub a b) {x : Operand} {v : Value} (h : evalO a x = some v) : evalO b x = some v := by
  cases x with
  | tmp t => exact hs t v h
  | const u => exact h
  | global g => cases h
  | func f => cases h

theorem evalArgs_sub (hs : Sub a b) : ∀ {xs : List Operand} {vs : List Value}, evalArgs a xs = some vs → evalArgs b xs = some vs
  | [], vs, h => h
  | x :: xs, vs, h => by
    simp only [evalArgs] at h ⊢
    cases hx : evalO a x with
    | none => simp [hx] at h
    | some u =>
      cases hl : evalArgs a xs with
      | none => simp [hx, hl] at h
      | some l => simp only [hx, hl] at h; simp only [evalO_sub hs hx, evalArgs_sub hs hl]; exact h

theorem evalParts_sub (hs : Sub a b) : ∀ {xs : List (Nat × Operand)} {vs : List (Nat × List Value)}, evalParts a xs = some vs → evalParts b xs = some vs
  | [], vs, h => h
  | (i, x) :: xs, vs, h => by
    simp only [evalParts] at h ⊢
    cases hx : evalO a x with
    | none => simp [hx] at h
    | some u =>
      cases hl : evalParts a xs with
      | none => simp [hl] at h
      | some l => simp only [hx, hl] at h; simp only [evalO_sub hs hx, evalParts_sub hs hl]; exact h

theorem evalOpt_sub (hs : Sub a b) {x : Option Operand} {v : Option Value} (h : evalOpt a x = some v) : evalOpt b x = some v := by
  cases x with
  | none => exact h
  | some x =>
    simp only [evalOpt] at h ⊢
    cases hx : evalO a x with
    | none => simp [hx] at h
    | some u => rw [hx] at h; rw [evalO_sub hs hx]; exact h

theorem LOp.eval_sub (hs : Sub a b) {st : St} {l : LOp} {v : Value} (h : l.eval P w0 a st = some v) : l.eval P w0 b st = some v := by
  cases l with
  | mov x => exact evalO_sub hs h
  | pick c x y =>
    simp only [LOp.eval] at h ⊢
    cases hc : evalO a c with
    | none => simp [hc] at h
    | some u =>
      simp only [hc] at h; simp only [evalO_sub hs hc]
      split at h
      · split at h <;> rename_i e
        · simp only [e, if_true]; exact evalO_sub hs h
        · simp only [e]; exact evalO_sub hs h
      · cases h
  | bin op t x y | eqp neg x y | idxS t x y | iaS sz x y | iaA ln sz x y | look str zero ok x y | min2 x y =>
    simp only [LOp.eval] at h ⊢
    cases hx : evalO a x with
    | none => simp [hx] at h
    | some u =>
      cases hy : evalO a y with
      | none => simp [hx, hy] at h
      | some u' => simp only [hx, hy] at h; simp only [evalO_sub hs hx, evalO_sub hs hy]; exact h
  | un op x | conv s d x | slA ln sz x | len x | lenS x | nilchk x | fa off x | ld n agg x | fld off n agg x | ext k x | mkI t x | asrt t z x | b2s x =>
    simp only [LOp.eval] at h ⊢
    cases hx : evalO a x with
    | none => simp [hx] at h
    | some u => simp only [hx] at h; simp only [evalO_sub hs hx]; exact h
  | slS t x lo hi | slc sz x lo hi =>
    simp only [LOp.eval] at h ⊢
    cases hx : evalO a x with
    | none => simp [hx] at h
    | some u =>
      cases hy : evalOpt a lo with
      | none => simp [hx, hy] at h
      | some u' =>
        cases hz : evalOpt a hi with
        | none => simp [hx, hy, hz] at h
        | some u'' => simp only [hx, hy, hz] at h; simp only [evalO_sub hs hx, evalOpt_sub hs hy, evalOpt_sub hs hz]; exact h
  | bld zero places parts =>
    simp only [LOp.eval] at h ⊢
    cases hx : evalParts a parts with
    | none => simp [hx] at h
    | some u => simp only [hx] at h; simp only [evalParts_sub hs hx]; exact h

theorem AOp.eval_sub (hs : Sub a b) {l : AOp} {v : Blk × (Nat → Value)} (h : l.eval a = some v) : l.eval b = some v := by
  cases l with
  | cells cs ty => exact h
  | mkmap => exact h
  | box n ty x =>
    simp only [AOp.eval] at h ⊢
    cases hx : evalO a x with
    | none => simp [hx] at h
    | some u => simp only [hx] at h; simp only [evalO_sub hs hx]; exact h
  | iter x =>
    simp only [AOp.eval] at h ⊢
    cases hx : evalO a x with
    | none => simp [hx] at h
    | some u => simp only [hx] at h; simp only [evalO_sub hs hx]; exact h
  | row ty sz len zero parts =>
    simp only [AOp.eval] at h ⊢
    cases hx : evalParts a parts with
    | none => simp [hx] at h
    | some u => simp only [hx] at h; simp only [evalParts_sub hs hx]; exact h
  | make ty sz bytes zero x y =>
    simp only [AOp.eval] at h ⊢
    cases hx : evalO a x with
    | none => simp [hx] at h
    | some u =>
      cases hy : evalO a y with
      | none => simp [hx, hy] at h
      | some u' => simp only [hx, hy] at h; simp only [evalO_sub hs hx, evalO_sub hs hy]; exact h

theorem HOp.eval_sub (hs : Sub a b) {st : St} {l : HOp} {v : Value × St} (h : l.eval w0 a st = some v) : l.eval w0 b st = some v := by
  cases l with
  | next x =>
    simp only [HOp.eval] at h ⊢
    cases hx : evalO a x with
    | none => simp [hx] at h
    | some u => simp only [hx] at h; simp only [evalO_sub hs hx]; exact h
  | store n x y | append ty sz bytes x y | appendZ ty sz bytes zero x y | copy sz x y =>
    simp only [HOp.eval] at h ⊢
    cases hx : evalO a x with
    | none => simp [hx] at h
    | some u =>
      cases hy : evalO a y with
      | none => simp [hx, hy] at h
      | some u' => simp only [hx, hy] at h; simp only [evalO_sub hs hx, evalO_sub hs hy]; exact h
  | mapset str m k y =>
    simp only [HOp.eval] at h ⊢
    cases hx : evalO a m with
    | none => simp [hx] at h
    | some u =>
      cases hy : evalO a k with
      | none => simp [hx, hy] at h
      | some u' =>
        cases hz : evalO a y with
        | none => simp [hx, hy, hz] at h
        | some u'' => simp only [hx, hy, hz] at h; simp only [evalO_sub hs hx, evalO_sub hs hy, evalO_sub hs hz]; exact h

theorem guardOf_sub (hs : Sub a b) {g : Option (Nat × Bool)} {t : Bool} (h : guardOf a g = some t) : guardOf b g = some t := by
  cases g with
  | none => exact h
  | some p =>
    obtain ⟨i, w⟩ := p
    simp only [guardOf] at h ⊢
    cases hx : a.lookup i with
    | none => simp [hx] at h
    | some u => simp only [hx] at h; simp only [hs i u hx]; exact h

theorem putE_sub (hs : Sub a b) (d : Option Nat) (v : Value) : Sub (putE d v a) (putE d v b) := by
  cases d with
  | none => exact hs
  | some d => exact hs.put d v

theorem step_sub (hs : Sub a b) {c : COp} {q : Bool} {ks : List LOp} {st : St} {k k' : Value → St → Prop} (hk : ∀ v st, k v st → k' v st) (h : c.step P w0 q ks a st k) : c.step P w0 q ks b st k' := by
  cases c with
  | light l =>
    simp only [COp.step] at h ⊢
    cases hl : l.eval P w0 a st with
    | none => simp [hl] at h
    | some v => simp only [hl] at h; simp only [LOp.eval_sub hs hl]; exact hk _ _ h
  | alloc l =>
    simp only [COp.step] at h ⊢
    cases hl : l.eval a with
    | none => simp [hl] at h
    | some v => simp only [hl] at h; simp only [AOp.eval_sub hs hl]; exact hk _ _ h
  | heavy l =>
    simp only [COp.step] at h ⊢
    cases hl : l.eval w0 a st with
    | none => simp [hl] at h
    | some v =>
      simp only [hl] at h; simp only [HOp.eval_sub hs hl]
      refine ⟨fun l hm => ?_, hk _ _ h.2⟩
      obtain ⟨h1, h2⟩ := h.1 l hm
      obtain ⟨u, hu⟩ := Option.isSome_iff_exists.1 h1
      rw [hu] at h2
      rw [LOp.eval_sub hs hu, LOp.eval_sub hs h2]
      exact ⟨rfl, rfl⟩
  | call f args =>
    simp only [COp.step] at h ⊢
    cases hl : evalArgs a args with
    | none => simp [hl] at h
    | some v => simp only [hl] at h; simp only [evalArgs_sub hs hl]; exact h.mono fun v st' hq => ⟨hq.1, hk _ _ hq.2⟩

theorem wpR_sub {K K' : Env → St → Prop} (hk : ∀ a b st, Sub a b → K a st → K' b st) : ∀ (rs : List ROp) (a b : Env) (st : St), Sub a b → wpR P w0 rs K a st → wpR P w0 rs K' b st := by
  intro rs
  induction rs with
  | nil => intro a b st hs h; exact hk _ _ _ hs h
  | cons r rs ih =>
    intro a b st hs h
    simp only [wpR] at h ⊢
    cases hg : guardOf a r.guard with
    | none => simp [hg, guardV] at h
    | some t =>
      rw [hg] at h
      rw [guardOf_sub hs hg]
      exact ⟨fun e => step_sub hs (fun v st' hq => ih _ _ _ (putE_sub hs _ _) hq) (h.1 e), fun e => ih _ _ _ (putE_sub hs _ _) (h.2 e)⟩

theorem iterS_sub {f : (Exit → Env → St → Prop) → Env → St → Prop} (hf : ∀ Q Q' : Exit → Env → St → Prop, (∀ e a b st, Sub a b → Q e a st → Q' e b st) → ∀ a b st, Sub a b → f Q a st → f Q' b st) {Q Q' : Exit → Env → St → Prop}
    (hq : ∀ e a b st, Sub a b → Q e a st → Q' e b st) : ∀ n a b st, Sub a b → iterS f Q n a st → iterS f Q' n b st := by
  intro n
  induction n with
  | zero => intro a b st _ h; exact h
  | succ n ih =>
    intro a b st hs h
    simp only [iterS] at h ⊢
    refine hf _ _ ?_ a b st hs h
    intro e a' b' st' hs' he
    cases e with
    | normal => exact ih _ _ _ hs' he
    | _ => exact hq _ _ _ _ hs' he

theorem wpS_sub (s : S) : ∀ Q Q' : Exit → Env → St → Prop, (∀ e a b st, Sub a b → Q e a st → Q' e b st) → ∀ a b st, Sub a b → wpS P w0 s Q a st → wpS P w0 s Q' b st := by
  induction s with
  | nop => intro Q Q' hq a b st hs h; exact hq _ _ _ _ hs h
  | ret => intro Q Q' hq a b st hs h; exact hq _ _ _ _ hs h
  | exit i => intro Q Q' hq a b st hs h; exact hq _ _ _ _ hs h
  | reg rs => intro Q Q' hq a b st hs h; exact wpR_sub (hq .normal) rs a b st hs h
  | seq x y ihx ihy =>
    intro Q Q' hq a b st hs h
    refine ihx _ _ ?_ a b st hs h
    intro e a' b' st' hs' he
    cases e with
    | normal => exact ihy _ _ hq _ _ _ hs' he
    | _ => exact hq _ _ _ _ hs' he
  | cond c x y ihx ihy =>
    intro Q Q' hq a b st hs h
    simp only [wpS] at h ⊢
    cases hc : evalO a c with
    | none => simp [hc, guardV] at h
    | some v =>
      rw [hc] at h
      rw [evalO_sub hs hc]
      exact guardV_mono (ihx _ _ hq _ _ _ hs) (ihy _ _ hq _ _ _ hs) h
  | block i x ih =>
    intro Q Q' hq a b st hs h
    refine ih _ _ ?_ a b st hs h
    intro e a' b' st' hs' he
    cases e with
    | exit j =>
      simp only [inBlockE] at he ⊢
      split
      · rename_i e; rw [if_pos e] at he; exact hq _ _ _ _ hs' he
      · rename_i e; rw [if_neg e] at he; exact hq _ _ _ _ hs' he
    | _ => exact hq _ _ _ _ hs' he
  | loop x ih =>
    intro Q Q' hq a b st hs h
    obtain ⟨n, hn⟩ := h
    exact ⟨n, iterS_sub ih hq n a b st hs hn⟩

/-! ### What hangs on what is alive alone -/
def Up (Q : Exit → Env → St → Prop) : Prop := ∀ e a b st, Sub a b → Q e a st → Q e b st
def UpK (K : Env → St → Prop) : Prop := ∀ a b st, Sub a b → K a st → K b st

theorem Up.thenE {K : Env → St → Prop} {Q : Exit → Env → St → Prop} (hk : UpK K) (hq : Up Q) : Up (V.thenE K Q) := by
  intro e a b st hs h
  cases e with
  | normal => exact hk _ _ _ hs h
  | _ => exact hq _ _ _ _ hs h
theorem Up.block {Q : Exit → Env → St → Prop} (hq : Up Q) (i : Nat) : Up (inBlockE i Q) := by
  intro e a b st hs he
  cases e with
  | exit j =>
    simp only [inBlockE] at he ⊢
    split
    · rename_i e; rw [if_pos e] at he; exact hq _ _ _ _ hs he
    · rename_i e; rw [if_neg e] at he; exact hq _ _ _ _ hs he
  | _ => exact hq _ _ _ _ hs he
theorem Up.seq {Q : Exit → Env → St → Prop} (hq : Up Q) (s : S) : UpK (wpS P w0 s Q) := fun a b st hs h => wpS_sub s _ _ hq a b st hs h

theorem resOne_sub (hs : Sub a b) {st : St} {r : Nat × Option (Nat × Bool)} {v : Value} (h : resOne w0 a st r = some v) : resOne w0 b st r = some v := by
  obtain ⟨t, o⟩ := r
  cases o with
  | none => exact hs _ _ h
  | some p =>
    obtain ⟨n, g⟩ := p
    simp only [resOne] at h ⊢
    cases hl : a.lookup t with
    | none => simp [hl] at h
    | some u => simp only [hl] at h; simp only [hs _ _ hl]; exact h
theorem resAll_sub (hs : Sub a b) {st : St} : ∀ {rs : List (Nat × Option (Nat × Bool))} {vs : List Value}, resAll w0 a st rs = some vs → resAll w0 b st rs = some vs
  | [], vs, h => h
  | r :: rs, vs, h => by
    simp only [resAll] at h ⊢
    cases h1 : resOne w0 a st r with
    | none => simp [h1] at h
    | some u =>
      cases h2 : resAll w0 a st rs with
      | none => simp [h1, h2] at h
      | some l => simp only [h1, h2] at h; simp only [resOne_sub hs h1, resAll_sub hs h2]; exact h
theorem Up.ret (rs : List (Nat × Option (Nat × Bool))) (Q : Value → St → Prop) : Up (retQ w0 rs Q) := by
  intro e a b st hs h
  cases e with
  | normal | ret =>
    simp only [retQ] at h ⊢
    cases hr : resAll w0 a st rs with
    | none => simp [hr] at h
    | some vs => simp only [hr] at h; simp only [resAll_sub hs hr]; exact h
  | _ => exact h

/-- What stands behind: it is enough for going on. -/
structure KOk (P : Program) (w0 : World) (y : S) (Q : Exit → Env → St → Prop) (K : Env → St → Prop) : Prop where
  h : ∀ env st, wpS P w0 y Q env st → K env st
theorem use_K {y : S} {Q : Exit → Env → St → Prop} {K : Env → St → Prop} {env : Env} {st : St} (hK : KOk P w0 y Q K) (h : wpS P w0 y Q env st) : K env st := hK.h _ _ h
/-- Statements one behind the other; the rest may be told by what is alive. -/
theorem wq_seq' {x y : S} {Q : Exit → Env → St → Prop} {env : Env} {st : St} (hq : Up Q) (h : ∀ K : Env → St → Prop, UpK K → KOk P w0 y Q K → wpS P w0 x (thenE K Q) env st) : wpS P w0 (.seq x y) Q env st :=
  h _ (hq.seq y) ⟨fun _ _ h => h⟩

/-- What a round must come to. -/
def LoopK (I : Nat → Env → St → Prop) (n : Nat) (env : Env) (st : St) : Prop := ∃ m env1, m < n ∧ Sub env1 env ∧ I m env1 st
theorem UpK.loop (I : Nat → Env → St → Prop) (n : Nat) : UpK (LoopK I n) := fun _ _ _ hs ⟨m, e, h1, h2, h3⟩ => ⟨m, e, h1, h2.trans hs, h3⟩
/-- A loop: what is alive at each round's head, with a number that each round lowers. -/
theorem wq_loop' {x : S} {Q : Exit → Env → St → Prop} {env : Env} {st : St} (hq : Up Q) (I : Nat → Env → St → Prop) (n : Nat) {env0 : Env} (hs : Sub env0 env) (h0 : I n env0 st)
    (h : ∀ n env st, I n env st → wpS P w0 x (thenE (LoopK I n) Q) env st) :
    wpS P w0 (.loop x) Q env st := by
  refine wq_loop (fun n env st => ∃ env1, Sub env1 env ∧ I n env1 st) n ⟨env0, hs, h0⟩ ?_
  rintro n env' st' ⟨env1, hsub, hI⟩
  refine wpS_sub x _ _ ?_ _ _ _ hsub (h n env1 st' hI)
  intro e a b st1 hs1 he
  cases e with
  | normal =>
    obtain ⟨m, env2, hm, hs2, hi⟩ := he
    exact ⟨m, hm, env2, hs2.trans hs1, hi⟩
  | _ => exact hq _ _ _ _ hs1 he

/-- Forget what is not alive. -/
theorem wq_trim {x : S} {Q : Exit → Env → St → Prop} {env env0 : Env} {st : St} (hq : Up Q) (hs : Sub env0 env) (h : wpS P w0 x Q env0 st) : wpS P w0 x Q env st := wpS_sub x _ _ hq _ _ _ hs h
end
end Go.Proofs.Ytnndjlgkhfinjaa.V
