/-
  The abstract semantics 'V', part 16: small laws for whoever walks in it.
-/
import Derived.Test.YtnndjlgkhfinjaaV15
set_option linter.all false
set_option linter.unusedSimpArgs false
set_option linter.unusedVariables false
set_option linter.unnecessarySimpa false
namespace Go.Proofs.Ytnndjlgkhfinjaa.V
open Go Go.RowKit

def bs (l : List Nat) : ByteArray := ⟨(l.map UInt8.ofNat).toArray⟩

/-- A state over w0: no block of its own lies among those that were there. -/
structure Ok (w0 : World) (st : St) : Prop where
  next : w0.heap.size ≤ st.next
  hi : ∀ b, b < w0.heap.size → st.blk b = none
  fresh : ∀ b, st.next ≤ b → st.blk b = none

section
variable {P : Program} {w0 : World}

theorem Sim.ok {μ : Mp} {st : St} {w : World} (h : Sim P w0 μ st w) : Ok w0 st := ⟨h.next, h.hi, fun b hb => (h.fresh b hb).2⟩

theorem DCalls.mono' {f : FuncId} {args : List Value} {st : St} {Q Q' : Value → St → Prop} (h : DCalls P w0 f args st Q) (hq : ∀ v st', Q v st' → Ok w0 st' → st.next ≤ st'.next → Q' v st') : DCalls P w0 f args st Q' :=
  ⟨h.1, fun μ w args' hs hr => (h.2 μ w args' hs hr).mono fun e w' ⟨v, v', st', μ', h1, h2, h3, h4, h5, h6⟩ => ⟨v, v', st', μ', h1, h2, hq _ _ h3 h4.ok h6.next, h4, h5, h6⟩⟩

theorem DCalls.given {f : FuncId} {args : List Value} {st : St} {Q : Value → St → Prop} (hE : Enters P f) (h : Ok w0 st → DCalls P w0 f args st Q) : DCalls P w0 f args st Q :=
  ⟨hE, fun μ w args' hs hr => (h hs.ok).2 μ w args' hs hr⟩

theorem Ok.lt {st : St} (h : Ok w0 st) {b : Nat} {bk : Blk} (hb : st.blk b = some bk) : b < st.next ∧ w0.heap.size ≤ b := by
  constructor
  · rcases Nat.lt_or_ge b st.next with h' | h'
    · exact h'
    · rw [h.fresh b h'] at hb; cases hb
  · rcases Nat.lt_or_ge b w0.heap.size with h' | h'
    · rw [h.hi b h'] at hb; cases hb
    · exact h'

theorem Ok.alloc {st : St} (h : Ok w0 st) (bk : Blk) : Ok w0 (st.alloc bk) := by
  refine ⟨Nat.le_succ_of_le h.next, ?_, ?_⟩
  · intro b hb
    have := h.next
    simp only [St.alloc]; rw [if_neg (by omega)]; exact h.hi b hb
  · intro b hb
    have hb' : st.next + 1 ≤ b := hb
    simp only [St.alloc]; rw [if_neg (by omega)]; exact h.fresh b (by omega)

theorem Ok.set {st : St} (h : Ok w0 st) {b : Nat} {bk0 : Blk} (hb : st.blk b = some bk0) (bk : Blk) : Ok w0 (st.set b bk) := by
  have hlt := h.lt hb
  refine ⟨h.next, ?_, ?_⟩
  · intro i hi
    simp only [St.set]; rw [if_neg (by omega)]; exact h.hi i hi
  · intro i hi
    have hi' : st.next ≤ i := hi
    simp only [St.set]; rw [if_neg (by omega)]; exact h.fresh i hi'

theorem alloc_next (st : St) (b : Blk) : (st.alloc b).next = st.next + 1 := rfl
theorem set_next (st : St) (i : Nat) (b : Blk) : (st.set i b).next = st.next := rfl
theorem kill_next (st : St) (i : Nat) : (st.kill i).next = st.next := rfl
theorem alloc_eq (st : St) (b : Blk) : (st.alloc b).blk st.next = some b := by simp [St.alloc]
theorem alloc_ne (st : St) (b : Blk) {i : Nat} (h : i ≠ st.next) : (st.alloc b).blk i = st.blk i := by simp [St.alloc, h]
theorem set_eq (st : St) (i : Nat) (b : Blk) : (st.set i b).blk i = some b := by simp [St.set]
theorem set_ne (st : St) {i j : Nat} (b : Blk) (h : j ≠ i) : (st.set i b).blk j = st.blk j := by simp [St.set, h]
theorem kill_ne (st : St) {i j : Nat} (h : j ≠ i) : (st.kill i).blk j = st.blk j := by simp [St.kill, h]

/-- Statements one behind the other: what follows is left as it is. -/
theorem wq_seq {a b : S} {Q : Exit → Env → St → Prop} {env : Env} {st : St} (h : ∀ K : Env → St → Prop, (∀ env st, wpS P w0 b Q env st → K env st) → wpS P w0 a (thenE K Q) env st) : wpS P w0 (.seq a b) Q env st :=
  h _ fun _ _ h => h
theorem wq_reg {rs : List ROp} {Q : Exit → Env → St → Prop} {env : Env} {st : St} (h : wpR P w0 rs (Q .normal) env st) : wpS P w0 (.reg rs) Q env st := h
theorem wq_nop {Q : Exit → Env → St → Prop} {env : Env} {st : St} (h : Q .normal env st) : wpS P w0 .nop Q env st := h
theorem wq_ret {Q : Exit → Env → St → Prop} {env : Env} {st : St} (h : Q .ret env st) : wpS P w0 .ret Q env st := h
theorem wq_exit {i : Nat} {Q : Exit → Env → St → Prop} {env : Env} {st : St} (h : Q (.exit i) env st) : wpS P w0 (.exit i) Q env st := h
theorem wq_block {i : Nat} {a : S} {Q : Exit → Env → St → Prop} {env : Env} {st : St} (h : wpS P w0 a (inBlockE i Q) env st) : wpS P w0 (.block i a) Q env st := h
theorem wq_cond {c : Operand} {a b : S} {Q : Exit → Env → St → Prop} {env : Env} {st : St} {t : Bool} (hc : evalO env c = some (.bool t)) (h1 : t = true → wpS P w0 a Q env st) (h2 : t = false → wpS P w0 b Q env st) :
    wpS P w0 (.cond c a b) Q env st := by
  simp only [wpS, hc, Option.bind_some, bool?, guardV]; exact ⟨h1, h2⟩
theorem step_mono {c : COp} {q : Bool} {ks : List LOp} {env : Env} {st : St} {k k' : Value → St → Prop} (hk : ∀ v st, k v st → k' v st) (h : c.step P w0 q ks env st k) : c.step P w0 q ks env st k' := by
  cases c with
  | light l =>
    simp only [COp.step] at h ⊢
    split at h
    · exact hk _ _ h
    · exact h
  | alloc A =>
    simp only [COp.step] at h ⊢
    split at h
    · exact hk _ _ h
    · exact h
  | heavy hh =>
    simp only [COp.step] at h ⊢
    split at h
    · exact ⟨h.1, hk _ _ h.2⟩
    · exact h
  | call f args =>
    simp only [COp.step] at h ⊢
    split at h
    · exact DCalls.mono h fun v st' hq => ⟨hq.1, hk _ _ hq.2⟩
    · exact h

theorem guardV_mono {o : Option Bool} {A B A' B' : Prop} (ha : A → A') (hb : B → B') (h : guardV o A B) : guardV o A' B' := by
  cases o with
  | none => exact h
  | some b => exact ⟨fun e => ha (h.1 e), fun e => hb (h.2 e)⟩

theorem wpR_mono {K K' : Env → St → Prop} (hk : ∀ env st, K env st → K' env st) : ∀ (rs : List ROp) (env : Env) (st : St), wpR P w0 rs K env st → wpR P w0 rs K' env st := by
  intro rs
  induction rs with
  | nil => intro env st h; exact hk _ _ h
  | cons r rs ih =>
    intro env st h
    simp only [wpR] at h ⊢
    exact guardV_mono (step_mono fun v st' hq => ih _ _ hq) (ih _ _) h

theorem iterS_mono {f : (Exit → Env → St → Prop) → Env → St → Prop} (hf : ∀ Q Q' : Exit → Env → St → Prop, (∀ e env st, Q e env st → Q' e env st) → ∀ env st, f Q env st → f Q' env st) {Q Q' : Exit → Env → St → Prop}
    (hq : ∀ e env st, Q e env st → Q' e env st) : ∀ n env st, iterS f Q n env st → iterS f Q' n env st := by
  intro n
  induction n with
  | zero => intro env st h; exact h
  | succ n ih =>
    intro env st h
    simp only [iterS] at h ⊢
    refine hf _ _ ?_ env st h
    intro e env' st' he
    cases e with
    | normal => exact ih env' st' he
    | _ => exact hq _ _ _ he

theorem thenE_mono {K K' : Env → St → Prop} {Q Q' : Exit → Env → St → Prop} (hk : ∀ env st, K env st → K' env st) (hq : ∀ e env st, Q e env st → Q' e env st) : ∀ e env st, thenE K Q e env st → thenE K' Q' e env st := by
  intro e env st h
  cases e with
  | normal => exact hk _ _ h
  | _ => exact hq _ _ _ h

theorem wpS_mono (s : S) : ∀ Q Q' : Exit → Env → St → Prop, (∀ e env st, Q e env st → Q' e env st) → ∀ env st, wpS P w0 s Q env st → wpS P w0 s Q' env st := by
  induction s with
  | nop => intro Q Q' hq env st h; exact hq _ _ _ h
  | ret => intro Q Q' hq env st h; exact hq _ _ _ h
  | exit i => intro Q Q' hq env st h; exact hq _ _ _ h
  | reg rs => intro Q Q' hq env st h; exact wpR_mono (hq .normal) rs env st h
  | seq a b iha ihb => intro Q Q' hq env st h; exact iha _ _ (thenE_mono (ihb Q Q' hq) hq) env st h
  | cond c a b iha ihb => intro Q Q' hq env st h; exact guardV_mono (iha Q Q' hq env st) (ihb Q Q' hq env st) h
  | block i a ih =>
    intro Q Q' hq env st h
    refine ih _ _ ?_ env st h
    intro e env' st' he
    cases e with
    | exit j =>
      simp only [inBlockE] at he ⊢
      split
      · rename_i e; rw [if_pos e] at he; exact hq _ _ _ he
      · rename_i e; rw [if_neg e] at he; exact hq _ _ _ he
    | _ => exact hq _ _ _ he
  | loop a ih =>
    intro Q Q' hq env st h
    obtain ⟨n, hn⟩ := h
    exact ⟨n, iterS_mono ih hq n env st hn⟩

/-- A loop: what holds at each round's head, with a number that each round lowers. -/
theorem wq_loop {a : S} {Q : Exit → Env → St → Prop} {env : Env} {st : St} (I : Nat → Env → St → Prop) (n : Nat) (h0 : I n env st)
    (h : ∀ n env st, I n env st → wpS P w0 a (thenE (fun env' st' => ∃ m, m < n ∧ I m env' st') Q) env st) :
    wpS P w0 (.loop a) Q env st := by
  have key : ∀ k n, n < k → ∀ env st, I n env st → iterS (wpS P w0 a) Q k env st := by
    intro k
    induction k with
    | zero => intro n hn; omega
    | succ k ih =>
      intro n hn env st hI
      simp only [iterS]
      refine wpS_mono a _ _ ?_ env st (h n env st hI)
      intro e env' st' hq
      cases e with
      | normal =>
        obtain ⟨m, hm, hI'⟩ := hq
        exact ih m (by omega) env' st' hI'
      | _ => exact hq
  exact ⟨n + 1, key (n + 1) n (Nat.lt_succ_self _) env st h0⟩

theorem get_cons (t d : Nat) (v : Value) (env : Env) : List.lookup t ((d, v) :: env) = if t = d then some v else env.lookup t := lookup_cons t d v env
theorem get_nil (t : Nat) : List.lookup t ([] : Env) = none := rfl

theorem cellsAt_own {st : St} {b o n : Nat} {cs : List Value} {ty : TypeId} (hb : w0.heap.size ≤ b) (h : st.blk b = some (.cells cs ty)) (hl : o + n ≤ cs.length) :
    cellsAt w0 st ⟨b, o, none⟩ n = some ((cs.drop o).take n) := by
  unfold cellsAt cellsOf
  have hb' : ¬ b < w0.heap.size := by omega
  simp [hb', h, hl]

theorem pureF_bool (P : Program) (b : Bool) : pureF P (Sem.pure (.bool b)) = some (.bool b) := rfl
theorem pureF_int (P : Program) (k : IntKind) (n : Int) : pureF P (Sem.pure (.int k n)) = some (.int k n) := rfl

end

theorem guardV_true (A B : Prop) : guardV (some true) A B = A := by simp [guardV]
theorem guardV_false (A B : Prop) : guardV (some false) A B = B := by simp [guardV]
theorem guardV_dec (p : Prop) [Decidable p] (A B : Prop) : guardV (some (decide p)) A B = ((p → A) ∧ (¬ p → B)) := by simp [guardV]
theorem guardV_bool (b : Bool) (A B : Prop) : guardV (some b) A B = ((b = true → A) ∧ (b = false → B)) := rfl

/-! ### Whole numbers -/
section
variable (P : Program) (t : TypeId) (x y : Operand)
theorem bin_eq (op : BinOp) (a b : Value) (r : Value) (h1 : eqGuard op t x y a b = Sem.pure ()) (h2 : binOp op t a b = Sem.pure r) (hr : flatV r = true) :
    pureF P (do eqGuard op t x y a b; binOp op t a b) = some r := by
  rw [h1, h2]
  simp [pureF, pureV, Bind.bind, Sem.bind, hr]

theorem guard_int (op : BinOp) (k : IntKind) (a b : Int) : eqGuard op t x y (.int k a) (.int k b) = Sem.pure () := by
  cases op <;> rfl
theorem guard_str (op : BinOp) (a b : ByteArray) : eqGuard op t x y (.string a) (.string b) = Sem.pure () := by
  cases op <;> rfl
theorem guard_bool (op : BinOp) (a b : Bool) : eqGuard op t x y (.bool a) (.bool b) = Sem.pure () := by
  cases op <;> rfl

theorem bin_add (k : IntKind) (a b : Int) : pureF P (do eqGuard .add t x y (.int k a) (.int k b); binOp .add t (.int k a) (.int k b)) = some (.int k (k.wrap (a + b))) :=
  bin_eq P t x y _ _ _ _ (guard_int ..) (by simp [binOp, Op.intArith]; rfl) rfl
theorem bin_sub (k : IntKind) (a b : Int) : pureF P (do eqGuard .sub t x y (.int k a) (.int k b); binOp .sub t (.int k a) (.int k b)) = some (.int k (k.wrap (a - b))) :=
  bin_eq P t x y _ _ _ _ (guard_int ..) (by simp [binOp, Op.intArith]; rfl) rfl
theorem bin_mul (k : IntKind) (a b : Int) : pureF P (do eqGuard .mul t x y (.int k a) (.int k b); binOp .mul t (.int k a) (.int k b)) = some (.int k (k.wrap (a * b))) :=
  bin_eq P t x y _ _ _ _ (guard_int ..) (by simp [binOp, Op.intArith]; rfl) rfl
theorem bin_rem (k : IntKind) (a b : Int) (h : b ≠ 0) : pureF P (do eqGuard .rem t x y (.int k a) (.int k b); binOp .rem t (.int k a) (.int k b)) = some (.int k (a.tmod b)) :=
  bin_eq P t x y _ _ _ _ (guard_int ..) (by simp [binOp, Op.intDiv, h]; rfl) rfl
theorem bin_quo (k : IntKind) (a b : Int) (h : b ≠ 0) : pureF P (do eqGuard .quo t x y (.int k a) (.int k b); binOp .quo t (.int k a) (.int k b)) = some (.int k (k.wrap (a.tdiv b))) :=
  bin_eq P t x y _ _ _ _ (guard_int ..) (by simp [binOp, Op.intDiv, h]; rfl) rfl
theorem bin_eql (k : IntKind) (a b : Int) : pureF P (do eqGuard .eql t x y (.int k a) (.int k b); binOp .eql t (.int k a) (.int k b)) = some (.bool (decide (a = b))) :=
  bin_eq P t x y _ _ _ _ (guard_int ..) (by simp [binOp, Op.intCmp]; rfl) rfl
theorem bin_neq (k : IntKind) (a b : Int) : pureF P (do eqGuard .neq t x y (.int k a) (.int k b); binOp .neq t (.int k a) (.int k b)) = some (.bool (decide (a ≠ b))) :=
  bin_eq P t x y _ _ _ _ (guard_int ..) (by simp [binOp, Op.intCmp]; rfl) rfl
theorem bin_lss (k : IntKind) (a b : Int) : pureF P (do eqGuard .lss t x y (.int k a) (.int k b); binOp .lss t (.int k a) (.int k b)) = some (.bool (decide (a < b))) :=
  bin_eq P t x y _ _ _ _ (guard_int ..) (by simp [binOp, Op.intCmp]; rfl) rfl
theorem bin_leq (k : IntKind) (a b : Int) : pureF P (do eqGuard .leq t x y (.int k a) (.int k b); binOp .leq t (.int k a) (.int k b)) = some (.bool (decide (a ≤ b))) :=
  bin_eq P t x y _ _ _ _ (guard_int ..) (by simp [binOp, Op.intCmp]; rfl) rfl
theorem bin_gtr (k : IntKind) (a b : Int) : pureF P (do eqGuard .gtr t x y (.int k a) (.int k b); binOp .gtr t (.int k a) (.int k b)) = some (.bool (decide (b < a))) :=
  bin_eq P t x y _ _ _ _ (guard_int ..) (by simp [binOp, Op.intCmp]; rfl) rfl
theorem bin_geq (k : IntKind) (a b : Int) : pureF P (do eqGuard .geq t x y (.int k a) (.int k b); binOp .geq t (.int k a) (.int k b)) = some (.bool (decide (b ≤ a))) :=
  bin_eq P t x y _ _ _ _ (guard_int ..) (by simp [binOp, Op.intCmp]; rfl) rfl
theorem un_not (b : Bool) : pureF P (Op.unary .not (.bool b)) = some (.bool (!b)) := rfl
theorem un_neg (k : IntKind) (a : Int) : pureF P (Op.unary .neg (.int k a)) = some (.int k (k.wrap (0 - a))) := rfl
end

theorem w64 {x : Int} (h : -9223372036854775808 ≤ x ∧ x ≤ 9223372036854775807) : IntKind.i64.wrap x = x := IntWalk.i64_in _ h

end Go.Proofs.Ytnndjlgkhfinjaa.V
