/-
  The abstract semantics 'V', part 11: regions whose order the model draws.
-/
import Derived.Test.YtnndjlgkhfinjaaV10
set_option linter.all false
set_option linter.unusedSimpArgs false
set_option linter.unusedVariables false
set_option linter.unnecessarySimpa false
namespace Go.Proofs.Ytnndjlgkhfinjaa.V
open Go Go.RowKit

/-! ### What a light operation hangs on -/

def LOp.readsHeap : LOp → Bool
  | .ld .. | .look .. | .b2s .. => true
  | _ => false

def optL : Option Operand → List Operand
  | none => []
  | some x => [x]

def LOp.ops : LOp → List Operand
  | .mov x | .un _ x | .conv _ _ x | .slA _ _ x | .len x | .lenS x | .nilchk x | .fa _ x | .ld _ _ x | .fld _ _ _ x | .ext _ x | .mkI _ x | .asrt _ _ x | .b2s x => [x]
  | .pick c a b => [c, a, b]
  | .bin _ _ x y | .eqp _ x y | .idxS _ x y | .iaS _ x y | .iaA _ _ x y | .look _ _ _ x y | .min2 x y => [x, y]
  | .slS _ x lo hi | .slc _ x lo hi => x :: (optL lo ++ optL hi)
  | .bld _ _ parts => parts.map (·.2)

def tmpOf : Operand → Option Nat
  | .tmp t => some t
  | _ => none

def tmpsOf (l : List Operand) : List Nat := l.filterMap tmpOf

section
variable {P : Program} {w0 : World}

theorem eval_indep {l : LOp} (h : l.readsHeap = false) (env : Env) (st st' : St) : l.eval P w0 env st = l.eval P w0 env st' := by
  cases l <;> first | rfl | (simp [LOp.readsHeap] at h)

theorem cellsOf_le {st st' : St} (hle : st.le st') (hf : ∀ b, st.next ≤ b → st.blk b = none) {b : Nat} {cs : List Value} (h : cellsOf w0 st b = some cs) : cellsOf w0 st' b = some cs := by
  unfold cellsOf at h ⊢
  split
  · rename_i hb; rw [if_pos hb] at h; exact h
  · rename_i hb
    rw [if_neg hb] at h
    have hlt : b < st.next := by
      rcases Nat.lt_or_ge b st.next with h' | h'
      · exact h'
      · rw [hf b h'] at h; cases h
    rw [hle.blk b hlt]; exact h

theorem cellsAt_le {st st' : St} (hle : st.le st') (hf : ∀ b, st.next ≤ b → st.blk b = none) {a : Addr} {n : Nat} {cs : List Value} (h : cellsAt w0 st a n = some cs) : cellsAt w0 st' a n = some cs := by
  unfold cellsAt at h ⊢
  cases hc : cellsOf w0 st a.block with
  | none => simp [hc] at h
  | some cs' => rw [hc] at h; rw [cellsOf_le hle hf hc]; exact h

theorem eval_le {l : LOp} {env : Env} {st st' : St} (hle : st.le st') (hf : ∀ b, st.next ≤ b → st.blk b = none) {v : Value} (h : l.eval P w0 env st = some v) : l.eval P w0 env st' = some v := by
  by_cases hr : l.readsHeap = false
  · rw [eval_indep hr env st' st]; exact h
  · cases l <;> simp [LOp.readsHeap] at hr
    · simp only [LOp.eval] at h ⊢
      split at h
      · rename_i a h1
        try rw [h1]
        try simp only
        split at h
        · rename_i cs hcs
          rw [cellsAt_le hle hf hcs]; exact h
        · cases h
      · cases h
    · simp only [LOp.eval] at h ⊢
      split at h
      · rename_i m k h1 h2
        try rw [h1, h2]
        try simp only
        cases m with
        | map q =>
          cases q with
          | none => exact h
          | some b =>
            simp only at h ⊢
            cases hb : st.blk b with
            | none => simp [hb] at h
            | some bk =>
              have hlt : b < st.next := by
                rcases Nat.lt_or_ge b st.next with h' | h'
                · exact h'
                · rw [hf b h'] at hb; cases hb
              rw [hle.blk b hlt]; exact h
        | _ => simp at h
      · cases h
    · simp only [LOp.eval] at h ⊢
      split at h
      · exact h
      · rename_i a n c h1
        try rw [h1]
        try simp only
        split at h
        · rename_i cs hcs
          rw [cellsAt_le hle hf hcs]; exact h
        · cases h
      · cases h

theorem evalO_agree {env env' : Env} {x : Operand} (h : ∀ t, tmpOf x = some t → env.lookup t = env'.lookup t) : evalO env x = evalO env' x := by
  cases x with
  | tmp t => exact h t rfl
  | _ => rfl

theorem eval_env {l : LOp} {env env' : Env} (h : ∀ t ∈ tmpsOf l.ops, env.lookup t = env'.lookup t) (st : St) : l.eval P w0 env st = l.eval P w0 env' st := by
  have hx : ∀ x ∈ l.ops, evalO env x = evalO env' x := fun x hx => evalO_agree fun t ht => h t (List.mem_filterMap.2 ⟨x, hx, ht⟩)
  have hopt : ∀ (y : Option Operand), (∀ x ∈ optL y, evalO env x = evalO env' x) → evalOpt env y = evalOpt env' y := by
    intro y hy
    cases y with
    | none => rfl
    | some z => simp only [evalOpt]; rw [hy z (by simp [optL])]
  cases l
  case bld zero places parts =>
    have : evalParts env parts = evalParts env' parts := by
      clear h
      induction parts with
      | nil => rfl
      | cons p parts ih =>
        obtain ⟨i, x⟩ := p
        simp only [evalParts]
        rw [hx x (by simp [LOp.ops]), ih (fun y hy => hx y (by simp [LOp.ops] at hy ⊢; exact .inr hy))]
    simp only [LOp.eval, this]
  case slS t x lo hi =>
    simp only [LOp.eval]
    rw [hx x (by simp [LOp.ops]), hopt lo (fun y hy => hx y (by simp [LOp.ops, hy])), hopt hi (fun y hy => hx y (by simp [LOp.ops, hy]))]
  case slc t x lo hi =>
    simp only [LOp.eval]
    rw [hx x (by simp [LOp.ops]), hopt lo (fun y hy => hx y (by simp [LOp.ops, hy])), hopt hi (fun y hy => hx y (by simp [LOp.ops, hy]))]
  all_goals simp only [LOp.ops, List.mem_cons, List.not_mem_nil, or_false, forall_eq_or_imp, forall_eq] at hx
  all_goals simp only [LOp.eval]
  all_goals first | (rw [hx]; done) | (rw [hx.1, hx.2]; done) | (rw [hx.1, hx.2.1, hx.2.2]; done) | (simp only [hx])
end

/-! ### Who must be ahead of whom -/

def bit (m i : Nat) : Bool := m.testBit i

def maskOf (acc : List Nat) (l : List Edge) : Nat :=
  l.foldl (fun s e => if Region.binds .any e then s ||| (1 <<< e.on) ||| acc.getD e.on 0 else s) 0

def ancM : List Oper → List Nat → List Nat
  | [], acc => acc
  | o :: rest, acc => ancM rest (acc ++ [maskOf acc o.after.toList])

theorem maskOf_bit (acc : List Nat) (x : Nat) : ∀ (l : List Edge) (s : Nat), bit (l.foldl (fun s e => if Region.binds .any e then s ||| (1 <<< e.on) ||| acc.getD e.on 0 else s) s) x = true →
    bit s x = true ∨ ∃ e ∈ l, Region.binds .any e = true ∧ (x = e.on ∨ bit (acc.getD e.on 0) x = true) := by
  intro l
  induction l with
  | nil => intro s h; exact .inl h
  | cons e l ih =>
    intro s h
    simp only [List.foldl_cons] at h
    rcases ih _ h with h | ⟨e', h1, h2⟩
    · split at h
      · rename_i hb
        simp only [bit, Nat.testBit_or, Bool.or_eq_true] at h
        rcases h with (h | h) | h
        · exact .inl h
        · refine .inr ⟨e, List.mem_cons_self .., hb, .inl ?_⟩
          rw [Nat.one_shiftLeft, Nat.testBit_two_pow] at h
          simp at h; exact h.symm
        · exact .inr ⟨e, List.mem_cons_self .., hb, .inr h⟩
      · exact .inl h
    · exact .inr ⟨e', List.mem_cons_of_mem _ h1, h2⟩

/-- What stands among the ones ahead has been done, where all that an operation asks for has been. -/
theorem ancM_sound (X : Nat → Prop) : ∀ (l : List Oper) (acc : List Nat), (∀ (k : Nat) (o : Oper), l[k]? = some o → X (acc.length + k) → ∀ e ∈ o.after.toList, Region.binds .any e = true → X e.on) →
    (∀ i x, bit (acc.getD i 0) x = true → X i → X x) → ∀ i x, bit ((ancM l acc).getD i 0) x = true → X i → X x := by
  intro l
  induction l with
  | nil => intro acc _ h; exact h
  | cons o l ih =>
    intro acc hcl hacc
    simp only [ancM]
    refine ih _ ?_ ?_
    · intro k o' hk hx
      refine hcl (k + 1) o' (by simpa using hk) ?_
      simp only [List.length_append, List.length_cons, List.length_nil] at hx
      rw [show acc.length + (k + 1) = acc.length + (0 + 1) + k by omega]; exact hx
    · intro i x hb hx
      simp only [List.getD_eq_getElem?_getD] at hb
      rw [List.getElem?_append] at hb
      split at hb
      · exact hacc i x (by simpa [List.getD_eq_getElem?_getD] using hb) hx
      · rename_i hlt
        by_cases he : i = acc.length
        · subst he
          simp only [Nat.sub_self, List.getElem?_cons_zero, Option.getD_some] at hb
          rcases maskOf_bit acc x _ 0 hb with h | ⟨e, h1, h2, h3⟩
          · simp [bit] at h
          · have hxe := hcl 0 o rfl (by simpa using hx) e h1 h2
            rcases h3 with rfl | h3
            · exact hxe
            · exact hacc e.on x h3 hxe
        · rw [List.getElem?_eq_none (by simp; omega)] at hb
          simp [bit] at hb

/-! ### The order of the abstract run -/

def COp.isHeavy : COp → Bool
  | .heavy _ | .call _ _ => true
  | _ => false

/-- The temporaries that an operation looks at. -/
def readsOf (o : Oper) (r : ROp) : List Nat :=
  tmpsOf o.op.operands.toList ++ (match r.guard with | some (t, _) => [t] | none => [])

/-- x stands ahead of y in the abstract run. 'ord': x must be ahead. -/
structure PairOk (ord : Bool) (ox : Oper) (x : ROp) (oy : Oper) (y : ROp) : Prop where
  ssa : ∀ d, x.dst = some d → y.dst ≠ some d
  light : ord = false → x.op.isHeavy = false
  fwd : ord = false → ∀ d, x.dst = some d → d ∉ readsOf oy y
  bwd : ord = false → ∀ d, y.dst = some d → d ∉ readsOf ox x
  call : ord = false → ∀ l, x.op = .light l → l.readsHeap = true → ∀ f args, y.op = .call f args → y.quiet = true
  heavy : ord = false → ∀ l, x.op = .light l → l.readsHeap = true → ∀ h, y.op = .heavy h → l ∈ y.keeps

structure SchedOk (P : Program) (N : Nat) (ops : Array Oper) (L : List (Nat × ROp)) : Prop where
  rok : ∀ (p i : Nat) (r : ROp), L[p]? = some (i, r) → ∃ o, ops[i]? = some o ∧ ROk P N ops o r
  all : ∀ i, i < ops.size → ∃ (p : Nat) (r : ROp), L[p]? = some (i, r)
  one : ∀ (p q i : Nat) (r r' : ROp), L[p]? = some (i, r) → L[q]? = some (i, r') → p = q
  pair : ∀ (p q i j : Nat) (x y : ROp) (ox oy : Oper), p < q → L[p]? = some (i, x) → L[q]? = some (j, y) → ops[i]? = some ox → ops[j]? = some oy →
    PairOk (bit ((ancM ops.toList []).getD j 0) i) ox x oy y
  keep : ∀ (p q z i j k : Nat) (x y u : ROp) (l : LOp) (h : HOp), p ≤ z → z < q → L[p]? = some (i, x) → L[q]? = some (j, y) → L[z]? = some (k, u) → x.op = .light l → l.readsHeap = true → y.op = .heavy h →
    bit ((ancM ops.toList []).getD j 0) i = false → ∀ d, u.dst = some d → d ∉ tmpsOf l.ops
  back : ∀ (i : Nat) (o : Oper), ops[i]? = some o → ∀ e ∈ o.after.toList, Region.binds .any e = true → e.on < i

section
variable {P : Program} {w0 : World} {N : Nat} {ops : Array Oper} {L : List (Nat × ROp)}

/-- What is known of an operation that the abstract run has done, and the world has not. -/
def Pend (P : Program) (w0 : World) (r : ROp) (env : Env) (st : St) (μ : Mp) (v : Value) (b : Nat) : Prop :=
  ∃ g, guardOf env r.guard = some g ∧ (g = false → v = undef) ∧ (g = true → match r.op with
    | .light l => l.eval P w0 env st = some v
    | .alloc A => ∃ bk mk, A.eval env = some (bk, mk) ∧ v = mk b ∧ st.blk b = some bk ∧ μ b = none ∧ b < st.next
    | _ => False)

structure Inv (P : Program) (w0 : World) (N : Nat) (ops : Array Oper) (L : List (Nat × ROp)) (K : Env → St → Prop) (μ0 : Mp) (st0 : St)
    (n : Nat) (X : Nat → Prop) (E : Nat → Env) (V : Nat → Value) (B : Nat → Nat) (env : Env) (st : St) (μ : Mp) (a : Act) (w : World) : Prop where
  run : wpR P w0 ((L.drop n).map (·.2)) K env st
  sim : Sim P w0 μ st w
  ext : Ext μ0 μ
  kp : Keep μ0 st0 μ st
  dfr : a.defers = []
  size : a.tmps.size = N
  closed : ∀ i, X i → ∀ o, ops[i]? = some o → ∀ e ∈ o.after.toList, Region.binds .any e = true → X e.on
  done : ∀ i, X i → ∃ (p : Nat) (r : ROp), p < n ∧ L[p]? = some (i, r)
  heavy : ∀ (p i : Nat) (r : ROp), p < n → L[p]? = some (i, r) → r.op.isHeavy = true → X i
  pend : ∀ (p i : Nat) (r : ROp), p < n → L[p]? = some (i, r) → ¬ X i → Pend P w0 r (E p) st μ (V p) (B p)
  blocks : ∀ (p q i j : Nat) (r r' : ROp), p < q → q < n → L[p]? = some (i, r) → L[q]? = some (j, r') → ¬ X i → ¬ X j → (∃ A, r.op = .alloc A) → (∃ A, r'.op = .alloc A) →
    guardOf (E p) r.guard = some true → guardOf (E q) r'.guard = some true → B p < B q
  low : ∀ (p i : Nat) (r : ROp), p < n → L[p]? = some (i, r) → ¬ X i → st0.next ≤ B p
  cur : ∀ t u, env.lookup t = some u → (∀ (p i : Nat) (r : ROp), p < n → L[p]? = some (i, r) → r.dst = some t → X i) → ∃ u', a.tmps[t]? = some u' ∧ VRel P w0.heap.size μ u u'
  opnd : ∀ (p i : Nat) (r : ROp) (o : Oper), p < n → L[p]? = some (i, r) → ops[i]? = some o → ¬ X i → ∀ t ∈ readsOf o r, ∀ u, (E p).lookup t = some u →
    (∀ (q j : Nat) (r' : ROp), q < p → L[q]? = some (j, r') → r'.dst = some t → X j) → ∃ u', a.tmps[t]? = some u' ∧ VRel P w0.heap.size μ u u'
  val : ∀ (p i : Nat) (r : ROp) (d : Nat), p < n → L[p]? = some (i, r) → ¬ X i → r.dst = some d → env.lookup d = some (V p)
  valE : ∀ (p q i : Nat) (r : ROp) (d : Nat), p < q → q < n → L[p]? = some (i, r) → ¬ X i → r.dst = some d → (E q).lookup d = some (V p)
  agree : ∀ (p : Nat) (t : Nat), p < n → (∀ (z k : Nat) (u : ROp), p ≤ z → z < n → L[z]? = some (k, u) → u.dst ≠ some t) → env.lookup t = (E p).lookup t

end
end Go.Proofs.Ytnndjlgkhfinjaa.V
