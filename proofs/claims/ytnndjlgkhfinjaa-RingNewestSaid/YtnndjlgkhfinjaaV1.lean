/-
  The abstract semantics 'V', part 1: values, states and the simulation between an abstract state and a world of the model.
  Blocks below w0.heap.size are those that lay there when the law was called: they are never written, and bear their own numbers.
-/
import Derived.WalkKit
set_option linter.all false
set_option linter.unusedSimpArgs false
set_option linter.unusedVariables false
set_option linter.unnecessarySimpa false
namespace Go.Proofs.Ytnndjlgkhfinjaa.V
open Go Go.RowKit

inductive All2 {α β : Type} (R : α → β → Prop) : List α → List β → Prop
  | nil : All2 R [] []
  | cons {x : α} {y : β} {xs : List α} {ys : List β} : R x y → All2 R xs ys → All2 R (x :: xs) (y :: ys)

/-- Where a block of the abstract state lies in the world: its block, its first cell there, the block's size, its element's type. -/
structure Loc where
  blk : Nat
  base : Nat
  size : Nat
  ty : TypeId

abbrev Mp := Nat → Option Loc

/-- Values that hold no address and are one cell. -/
def atom : Value → Bool
  | .bool _ | .int _ _ | .string _ | .pointer none | .slice none _ _ | .map none | .nilFunc | .nilIface => true
  | _ => false

def flatV : Value → Bool
  | .agg cs => cs.all atom
  | .tuple vs => vs.all fun v => atom v || (match v with | .agg cs => cs.all atom | _ => false)
  | v => atom v

section
variable (P : Program) (n0 : Nat)

/-- Values of the abstract state and of the world. Of an own slice the abstract 'capacity' bears the cells of an element (0: it may not be appended to). -/
inductive VRel (μ : Mp) : Value → Value → Prop
  | atom (v : Value) : atom v = true → VRel μ v v
  | oldPtr (a : Addr) : a.block < n0 → VRel μ (.pointer (some a)) (.pointer (some a))
  | ptr (b o : Nat) (m : Loc) : μ b = some m → VRel μ (.pointer (some ⟨b, o, none⟩)) (.pointer (some ⟨m.blk, m.base + o, none⟩))
  | oldSlice (a : Addr) (n c : Nat) : a.block < n0 → VRel μ (.slice (some a) n c) (.slice (some a) n c)
  | slice (b o n c c' : Nat) (m : Loc) : μ b = some m → n ≤ c' → (c ≠ 0 → c = P.cellsOf m.ty ∧ m.base + o + c' * c ≤ m.size) →
      VRel μ (.slice (some ⟨b, o, none⟩) n c) (.slice (some ⟨m.blk, m.base + o, none⟩) n c')
  | sliceE (b o : Nat) (a' : Addr) (c : Nat) (m : Loc) : μ b = some m → VRel μ (.slice (some ⟨b, o, none⟩) 0 c) (.slice (some a') 0 0)
  | map (b : Nat) (m : Loc) : μ b = some m → VRel μ (.map (some b)) (.map (some m.blk))
  | func (f : Fn) (xs ys : Array Value) : xs.size = ys.size → (∀ (i : Nat) (x y : Value), xs[i]? = some x → ys[i]? = some y → VRel μ x y) →
      VRel μ (.func f #[] xs) (.func f #[] ys)
  | agg (xs ys : Array Value) : xs.size = ys.size → (∀ (i : Nat) (x y : Value), xs[i]? = some x → ys[i]? = some y → VRel μ x y) →
      (∀ (i : Nat) (x : Value), xs[i]? = some x → x.oneCell' = true) → VRel μ (.agg xs) (.agg ys)
  | iface (t : TypeId) (v v' : Value) : VRel μ v v' → VRel μ (.iface t v) (.iface t v')
  | tuple (xs ys : Array Value) : xs.size = ys.size → (∀ (i : Nat) (x y : Value), xs[i]? = some x → ys[i]? = some y → VRel μ x y) → VRel μ (.tuple xs) (.tuple ys)

def Ext (μ μ' : Mp) : Prop := ∀ b m, μ b = some m → μ' b = some m

variable {P n0}

theorem Ext.refl (μ : Mp) : Ext μ μ := fun _ _ h => h
theorem Ext.trans {a b c : Mp} (h : Ext a b) (k : Ext b c) : Ext a c := fun _ _ e => k _ _ (h _ _ e)

theorem VRel.ext {μ μ' : Mp} (he : Ext μ μ') {v v' : Value} (h : VRel P n0 μ v v') : VRel P n0 μ' v v' := by
  induction h with
  | atom v h => exact .atom v h
  | oldPtr a h => exact .oldPtr a h
  | ptr b o m h => exact .ptr b o m (he _ _ h)
  | oldSlice a n c h => exact .oldSlice a n c h
  | slice b o n c c' m h h1 h2 => exact .slice b o n c c' m (he _ _ h) h1 h2
  | sliceE b o a' c m h => exact .sliceE b o a' c m (he _ _ h)
  | map b m h => exact .map b m (he _ _ h)
  | func f xs ys h _ ih => exact .func f xs ys h ih
  | agg xs ys h _ h1 ih => exact .agg xs ys h ih h1
  | iface t v v' _ ih => exact .iface t v v' ih
  | tuple xs ys h _ ih => exact .tuple xs ys h ih

theorem VRel.atom_eq {μ : Mp} {v v' : Value} (h : VRel P n0 μ v v') (ha : V.atom v = true) : v' = v := by
  cases h <;> first | rfl | (simp [V.atom] at ha)

theorem VRel.arr_eq {μ : Mp} {xs ys : Array Value} (hs : xs.size = ys.size) (hr : ∀ (i : Nat) (x y : Value), xs[i]? = some x → ys[i]? = some y → VRel P n0 μ x y)
    (p : Value → Bool) (hp : ∀ x y, p x = true → VRel P n0 μ x y → y = x) (ha : xs.all p = true) : ys = xs := by
  apply Array.ext hs.symm
  intro i h1 h2
  have hx : p xs[i] = true := by
    rw [Array.all_eq_true] at ha
    exact ha i h2
  exact hp _ _ hx (hr i xs[i] ys[i] (by simp [h2]) (by simp [h1]))

theorem VRel.agg_eq {μ : Mp} {xs : Array Value} {v' : Value} (h : VRel P n0 μ (.agg xs) v') (ha : xs.all V.atom = true) : v' = .agg xs := by
  cases h with
  | atom _ h => simp [V.atom] at h
  | agg _ ys hs hr _ => rw [VRel.arr_eq hs hr V.atom (fun x y h1 h2 => h2.atom_eq h1) ha]

theorem VRel.flat_eq {μ : Mp} {v v' : Value} (h : VRel P n0 μ v v') (ha : flatV v = true) : v' = v := by
  cases v with
  | agg cs => exact h.agg_eq ha
  | tuple vs =>
    cases h with
    | atom _ h => simp [V.atom] at h
    | tuple _ ys hs hr =>
      rw [VRel.arr_eq hs hr _ (fun x y h1 h2 => ?_) ha]
      simp only [Bool.or_eq_true] at h1
      rcases h1 with h1 | h1
      · exact h2.atom_eq h1
      · cases x with
        | agg cs => exact h2.agg_eq h1
        | _ => simp at h1
  | _ => exact h.atom_eq ha

theorem VRel.flat {μ : Mp} {v : Value} (ha : flatV v = true) : VRel P n0 μ v v := by
  have arr : ∀ (xs : Array Value), xs.all V.atom = true → ∀ (i : Nat) (x y : Value), xs[i]? = some x → xs[i]? = some y → VRel P n0 μ x y := by
    intro xs h i x y h1 h2
    rw [h1] at h2; cases h2
    rw [Array.all_eq_true] at h
    obtain ⟨hi, rfl⟩ := Array.getElem?_eq_some_iff.1 h1
    exact .atom _ (h i hi)
  have one : ∀ (xs : Array Value), xs.all V.atom = true → ∀ (i : Nat) (x : Value), xs[i]? = some x → x.oneCell' = true := by
    intro xs h i x h1
    rw [Array.all_eq_true] at h
    obtain ⟨hi, rfl⟩ := Array.getElem?_eq_some_iff.1 h1
    have := h i hi
    revert this
    cases xs[i] <;> simp [V.atom, Value.oneCell']
  cases v with
  | agg cs => exact .agg _ _ rfl (arr cs ha) (one cs ha)
  | tuple vs =>
    refine .tuple _ _ rfl ?_
    intro i x y h1 h2
    rw [h1] at h2; cases h2
    simp only [flatV, Array.all_eq_true] at ha
    obtain ⟨hi, rfl⟩ := Array.getElem?_eq_some_iff.1 h1
    have := ha i hi
    simp only [Bool.or_eq_true] at this
    rcases this with h | h
    · exact .atom _ h
    · generalize vs[i] = z at h ⊢
      cases z with
      | agg cs => exact .agg _ _ rfl (arr cs h) (one cs h)
      | _ => simp at h
  | _ => exact .atom _ ha

theorem VRel.undef {μ : Mp} : VRel P n0 μ undef undef := .tuple _ _ rfl (by simp)

theorem VRel.bool_eq {μ : Mp} {b : Bool} {v' : Value} (h : VRel P n0 μ (.bool b) v') : v' = .bool b := h.atom_eq rfl
theorem VRel.int_eq {μ : Mp} {k : IntKind} {b : Int} {v' : Value} (h : VRel P n0 μ (.int k b) v') : v' = .int k b := h.atom_eq rfl

theorem VRel.tuple_inv {μ : Mp} {xs : Array Value} {v' : Value} (h : VRel P n0 μ (.tuple xs) v') :
    ∃ ys, v' = .tuple ys ∧ xs.size = ys.size ∧ ∀ (i : Nat) (x y : Value), xs[i]? = some x → ys[i]? = some y → VRel P n0 μ x y := by
  cases h with
  | atom _ h => simp [V.atom] at h
  | tuple _ ys hs hr => exact ⟨ys, rfl, hs, hr⟩

theorem VRel.agg_inv {μ : Mp} {xs : Array Value} {v' : Value} (h : VRel P n0 μ (.agg xs) v') :
    ∃ ys, v' = .agg ys ∧ xs.size = ys.size ∧ (∀ (i : Nat) (x y : Value), xs[i]? = some x → ys[i]? = some y → VRel P n0 μ x y) ∧
      ∀ (i : Nat) (x : Value), xs[i]? = some x → x.oneCell' = true := by
  cases h with
  | atom _ h => simp [V.atom] at h
  | agg _ ys hs hr h1 => exact ⟨ys, rfl, hs, hr, h1⟩

theorem VRel.iface_inv {μ : Mp} {t : TypeId} {x v' : Value} (h : VRel P n0 μ (.iface t x) v') : ∃ y, v' = .iface t y ∧ VRel P n0 μ x y := by
  cases h with
  | atom _ h => simp [V.atom] at h
  | iface _ _ y hy => exact ⟨y, rfl, hy⟩

theorem VRel.map_inv {μ : Mp} {b : Nat} {v' : Value} (h : VRel P n0 μ (.map (some b)) v') : ∃ m, v' = .map (some m.blk) ∧ μ b = some m := by
  cases h with
  | atom _ h => simp [V.atom] at h
  | map _ m hm => exact ⟨m, rfl, hm⟩

theorem VRel.oneCell {μ : Mp} {v v' : Value} (h : VRel P n0 μ v v') : v'.oneCell' = v.oneCell' := by
  cases h <;> rfl

theorem VRel.ptr_inv {μ : Mp} {a : Addr} {v' : Value} (h : VRel P n0 μ (.pointer (some a)) v') :
    (v' = .pointer (some a) ∧ a.block < n0) ∨ ∃ m, μ a.block = some m ∧ a.spot = none ∧ v' = .pointer (some ⟨m.blk, m.base + a.off, none⟩) := by
  cases h with
  | atom _ h => simp [V.atom] at h
  | oldPtr _ h => exact .inl ⟨rfl, h⟩
  | ptr b o m h => exact .inr ⟨m, h, rfl, rfl⟩

end

/-! ### Abstract states -/

inductive Blk where
  | cells (cs : List Value) (ty : TypeId)
  | map (es : List (Value × Value))
  | iter (s : ByteArray) (pos : Nat)

structure St where
  blk : Nat → Option Blk
  next : Nat

namespace St
def alloc (st : St) (b : Blk) : St := ⟨fun i => if i = st.next then some b else st.blk i, st.next + 1⟩
def set (st : St) (i : Nat) (b : Blk) : St := ⟨fun j => if j = i then some b else st.blk j, st.next⟩
def kill (st : St) (i : Nat) : St := ⟨fun j => if j = i then none else st.blk j, st.next⟩
/-- All blocks below 'next' are as they were. -/
structure le (st st' : St) : Prop where
  next : st.next ≤ st'.next
  blk : ∀ i, i < st.next → st'.blk i = st.blk i

theorem le.refl (st : St) : st.le st := ⟨Nat.le_refl _, fun _ _ => rfl⟩
theorem le.trans {a b c : St} (h : a.le b) (k : b.le c) : a.le c :=
  ⟨Nat.le_trans h.next k.next, fun i hi => (k.blk i (Nat.lt_of_lt_of_le hi h.next)).trans (h.blk i hi)⟩
theorem le.alloc (st : St) (b : Blk) : st.le (st.alloc b) :=
  ⟨Nat.le_succ _, fun i hi => by simp [St.alloc, Nat.ne_of_lt hi]⟩
end St

/-- The cells of a block: of one that lay there, or of the state's own. -/
def cellsOf (w0 : World) (st : St) (b : Nat) : Option (List Value) :=
  if b < w0.heap.size then
    match w0.heap[b]? with
    | some (.cells c _ _) => some c.toList
    | _ => none
  else match st.blk b with
    | some (.cells c _) => some c
    | _ => none

section
variable (P : Program) (w0 : World)

structure Sim (μ : Mp) (st : St) (w : World) : Prop where
  old : Below w0.heap.size w0 w
  next : w0.heap.size ≤ st.next
  fresh : ∀ b, st.next ≤ b → μ b = none ∧ st.blk b = none
  lo : ∀ b m, μ b = some m → w0.heap.size ≤ b ∧ w0.heap.size ≤ m.blk ∧ m.blk < w.heap.size
  hi : ∀ b, b < w0.heap.size → st.blk b = none
  cells : ∀ b cs ty m, st.blk b = some (.cells cs ty) → μ b = some m → m.ty = ty ∧ ∃ arr, w.heap[m.blk]? = some (.cells arr ty (0, 0)) ∧ arr.size = m.size ∧
    m.base + cs.length ≤ m.size ∧ (∀ (i : Nat) (v : Value), cs[i]? = some v → ∃ v', arr[m.base + i]? = some v' ∧ VRel P w0.heap.size μ v v') ∧ ∀ v ∈ cs, v.oneCell' = true
  maps : ∀ b es m, st.blk b = some (.map es) → μ b = some m → ∃ arr clock, w.heap[m.blk]? = some (.map arr clock) ∧ arr.size = es.length ∧
    ∀ (i : Nat) (k v : Value), es[i]? = some (k, v) → atom k = true ∧ ∃ e : MapEntry, arr[i]? = some e ∧ e.key = k ∧ VRel P w0.heap.size μ v e.val
  iters : ∀ b s pos m, st.blk b = some (.iter s pos) → μ b = some m → m.base = 0 ∧ w.heap[m.blk]? = some (.stringIter s pos)
  inj : ∀ b b' m m', (st.blk b).isSome = true → (st.blk b').isSome = true → μ b = some m → μ b' = some m' → m.blk = m'.blk → b = b'

/-- What a piece of a run leaves as it was: blocks that are not born in the world stay so. -/
structure Keep (μ : Mp) (st : St) (μ' : Mp) (st' : St) : Prop where
  next : st.next ≤ st'.next
  unborn : ∀ b, b < st.next → μ b = none → μ' b = none ∧ st'.blk b = st.blk b

variable {P w0}
theorem Keep.refl (μ : Mp) (st : St) : Keep μ st μ st := ⟨Nat.le_refl _, fun _ _ h => ⟨h, rfl⟩⟩
theorem Keep.trans {μ μ' μ'' : Mp} {st st' st'' : St} (h : Keep μ st μ' st') (k : Keep μ' st' μ'' st'') : Keep μ st μ'' st'' :=
  ⟨Nat.le_trans h.next k.next, fun b hb hm => by
    obtain ⟨h1, h2⟩ := h.unborn b hb hm
    obtain ⟨k1, k2⟩ := k.unborn b (Nat.lt_of_lt_of_le hb h.next) h1
    exact ⟨k1, k2.trans h2⟩⟩

/-! ### Environments -/
abbrev Env := List (Nat × Value)

def evalO (env : Env) : Operand → Option Value
  | .tmp t => env.lookup t
  | .const v => if flatV v then some v else none
  | _ => none

structure EnvRel (P : Program) (n0 : Nat) (N : Nat) (μ : Mp) (env : Env) (tmps : Array Value) : Prop where
  size : tmps.size = N
  rel : ∀ t v, env.lookup t = some v → ∃ v', tmps[t]? = some v' ∧ VRel P n0 μ v v'

theorem EnvRel.ext {N n0 : Nat} {μ μ' : Mp} {env : Env} {tmps : Array Value} (he : Ext μ μ') (h : EnvRel P n0 N μ env tmps) : EnvRel P n0 N μ' env tmps :=
  ⟨h.size, fun t v ht => let ⟨v', h1, h2⟩ := h.rel t v ht; ⟨v', h1, h2.ext he⟩⟩

theorem lookup_cons (t d : Nat) (v : Value) (env : Env) : List.lookup t ((d, v) :: env) = if t = d then some v else env.lookup t := by
  simp only [List.lookup_cons]
  by_cases h : t = d
  · simp [h]
  · rw [if_neg h]
    have : (t == d) = false := by simp [h]
    rw [this]

theorem EnvRel.put {N n0 : Nat} {μ : Mp} {env : Env} {a : Act} (h : EnvRel P n0 N μ env a.tmps) {d : Nat} (hd : d < N) {v v' : Value} (hv : VRel P n0 μ v v') :
    EnvRel P n0 N μ ((d, v) :: env) (a.put (some d) v').tmps := by
  refine ⟨by simp [Act.put, h.size], fun t u ht => ?_⟩
  rw [lookup_cons] at ht
  by_cases e : t = d
  · subst e
    simp at ht; subst ht
    exact ⟨v', by simp [Act.put, Array.getElem?_setIfInBounds, h.size, hd], hv⟩
  · rw [if_neg e] at ht
    obtain ⟨u', h1, h2⟩ := h.rel t u ht
    exact ⟨u', by simp [Act.put, Array.getElem?_setIfInBounds, h1, Ne.symm e], h2⟩

theorem EnvRel.eval {N n0 : Nat} {μ : Mp} {env : Env} {a : Act} (h : EnvRel P n0 N μ env a.tmps) {x : Operand} {v : Value} (hx : evalO env x = some v) :
    VRel P n0 μ v (a.eval x) := by
  cases x with
  | tmp t =>
    obtain ⟨v', h1, h2⟩ := h.rel t v hx
    have : a.eval (.tmp t) = v' := by simp [Act.eval, Array.getD_eq_getD_getElem?, h1]
    rw [this]; exact h2
  | const u =>
    simp only [evalO] at hx
    split at hx
    · cases hx; exact VRel.flat (by assumption)
    · cases hx
  | global g => cases hx
  | func f => cases hx

end
end Go.Proofs.Ytnndjlgkhfinjaa.V
