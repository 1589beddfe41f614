/-
  The abstract semantics V: values, states, light operations, rows of the form.
-/
import Derived.WalkKit
set_option linter.all false
set_option linter.unusedSimpArgs false
set_option linter.unusedVariables false
set_option linter.unnecessarySimpa false
namespace Go.Proofs.YtnphhelbianjpaaGreatDoor.V
theorem dT {p : Prop} [Decidable p] (h : p) : decide p = true := decide_eq_true h
theorem dF {p : Prop} [Decidable p] (h : ¬ p) : decide p = false := decide_eq_false h
theorem lM {α β : Type} {f : α → β} {l : List α} : (l.map f).length = l.length := List.length_map ..
theorem lA {α : Type} {a b : List α} : (a ++ b).length = a.length + b.length := List.length_append
open Go Go.RowKit

inductive All2 {α β : Type} (R : α → β → Prop) : List α → List β → Prop
 | nil : All2 R [] []
 | cons {x : α} {y : β} {xs : List α} {ys : List β} : R x y → All2 R xs ys → All2 R (x :: xs) (y :: ys)

structure Loc where
 blk : Nat
 base : Nat
 size : Nat
 ty : TypeId

abbrev Mp := Nat → Option Loc

def atom : Value → Bool
 | .bool _ | .int _ _ | .string _ | .pointer none | .slice none _ _ | .map none | .nilFunc | .nilIface => true
 | _ => false

def flatV : Value → Bool
 | .agg cs => cs.all atom
 | .tuple vs => vs.all fun v => atom v || (match v with | .agg cs => cs.all atom | _ => false)
 | v => atom v

section
variable (P : Program) (n0 : Nat)

inductive VRel (μ : Mp) : Value → Value → Prop
 | atom (v : Value) : atom v = true → VRel μ v v
 | oldPtr (a : Addr) : a.block < n0 → VRel μ (.pointer (some a)) (.pointer (some a))
 | ptr (b o : Nat) (m : Loc) : μ b = some m → VRel μ (.pointer (some ⟨b, o, none⟩)) (.pointer (some ⟨m.blk, m.base + o, none⟩))
 | oldSlice (a : Addr) (n c : Nat) : a.block < n0 → VRel μ (.slice (some a) n c) (.slice (some a) n c)
 | slice (b o n c c' : Nat) (m : Loc) : μ b = some m → n ≤ c' → (c ≠ 0 → c = P.cellsOf m.ty ∧ m.base + o + c' * c ≤ m.size) →
   VRel μ (.slice (some ⟨b, o, none⟩) n c) (.slice (some ⟨m.blk, m.base + o, none⟩) n c')
 | sliceE (b o : Nat) (a' : Addr) (c : Nat) (m : Loc) : μ b = some m → VRel μ (.slice (some ⟨b, o, none⟩) 0 c) (.slice (some a') 0 0)
 | oldE (a a' : Addr) : VRel μ (.slice (some a) 0 0) (.slice (some a') 0 0)
 | map (b : Nat) (m : Loc) : μ b = some m → VRel μ (.map (some b)) (.map (some m.blk))
 | func (f : Fn) (xs ys : Array Value) : xs.size = ys.size → (∀ (i : Nat) (x y : Value), xs[i]? = some x → ys[i]? = some y → VRel μ x y) →
   VRel μ (.func f #[] xs) (.func f #[] ys)
 | agg (xs ys : Array Value) : xs.size = ys.size → (∀ (i : Nat) (x y : Value), xs[i]? = some x → ys[i]? = some y → VRel μ x y) →
   (∀ (i : Nat) (x : Value), xs[i]? = some x → x.oneCell' = true) → VRel μ (.agg xs) (.agg ys)
 | iface (t : TypeId) (v v' : Value) : VRel μ v v' → VRel μ (.iface t v) (.iface t v')
 | tuple (xs ys : Array Value) : xs.size = ys.size → (∀ (i : Nat) (x y : Value), xs[i]? = some x → ys[i]? = some y → VRel μ x y) → VRel μ (.tuple xs) (.tuple ys)

def Ext (μ μ' : Mp) : Prop := ∀ b m, μ b = some m → μ' b = some m

variable {P n0}

theorem Ext.refl (μ : Mp) : Ext μ μ := fun _ _ h => h
theorem Ext.trans {a b c : Mp} (h : Ext a b) (k : Ext b c) : Ext a c := fun _ _ e => k _ _ (h _ _ e)

theorem VRel.ext {μ μ' : Mp} (he : Ext μ μ') {v v' : Value} (h : VRel P n0 μ v v') : VRel P n0 μ' v v' := by
 induction h with
 | atom v h => exact .atom v h
 | oldPtr a h => exact .oldPtr a h
 | ptr b o m h => exact .ptr b o m (he _ _ h)
 | oldSlice a n c h => exact .oldSlice a n c h
 | slice b o n c c' m h h1 h2 => exact .slice b o n c c' m (he _ _ h) h1 h2
 | sliceE b o a' c m h => exact .sliceE b o a' c m (he _ _ h)
 | oldE a a' => exact .oldE a a'
 | map b m h => exact .map b m (he _ _ h)
 | func f xs ys h _ ih => exact .func f xs ys h ih
 | agg xs ys h _ h1 ih => exact .agg xs ys h ih h1
 | iface t v v' _ ih => exact .iface t v v' ih
 | tuple xs ys h _ ih => exact .tuple xs ys h ih

theorem VRel.atom_eq {μ : Mp} {v v' : Value} (h : VRel P n0 μ v v') (ha : V.atom v = true) : v' = v := by
 cases h <;> first | rfl | (simp [V.atom] at ha)

theorem VRel.arr_eq {μ : Mp} {xs ys : Array Value} (hs : xs.size = ys.size) (hr : ∀ (i : Nat) (x y : Value), xs[i]? = some x → ys[i]? = some y → VRel P n0 μ x y)
  (p : Value → Bool) (hp : ∀ x y, p x = true → VRel P n0 μ x y → y = x) (ha : xs.all p = true) : ys = xs := by
 apply Array.ext hs.symm
 intro i h1 h2
 have hx : p xs[i] = true := by
  rw [Array.all_eq_true] at ha
  exact ha i h2
 exact hp _ _ hx (hr i xs[i] ys[i] (by simp [h2]) (by simp [h1]))

theorem VRel.agg_eq {μ : Mp} {xs : Array Value} {v' : Value} (h : VRel P n0 μ (.agg xs) v') (ha : xs.all V.atom = true) : v' = .agg xs := by
 cases h with
 | atom _ h => simp [V.atom] at h
 | agg _ ys hs hr _ => rw [VRel.arr_eq hs hr V.atom (fun x y h1 h2 => h2.atom_eq h1) ha]

theorem VRel.flat_eq {μ : Mp} {v v' : Value} (h : VRel P n0 μ v v') (ha : flatV v = true) : v' = v := by
 cases v with
 | agg cs => exact h.agg_eq ha
 | tuple vs =>
  cases h with
  | atom _ h => simp [V.atom] at h
  | tuple _ ys hs hr =>
   rw [VRel.arr_eq hs hr _ (fun x y h1 h2 => ?_) ha]
   simp only [Bool.or_eq_true] at h1
   rcases h1 with h1 | h1
   ·exact h2.atom_eq h1
   ·cases x with
    | agg cs => exact h2.agg_eq h1
    | _ => simp at h1
 | _ => exact h.atom_eq ha

theorem VRel.flat {μ : Mp} {v : Value} (ha : flatV v = true) : VRel P n0 μ v v := by
 have arr : ∀ (xs : Array Value), xs.all V.atom = true → ∀ (i : Nat) (x y : Value), xs[i]? = some x → xs[i]? = some y → VRel P n0 μ x y := by
  intro xs h i x y h1 h2
  rw [h1] at h2; cases h2
  rw [Array.all_eq_true] at h
  obtain ⟨hi, rfl⟩ := Array.getElem?_eq_some_iff.1 h1
  exact .atom _ (h i hi)
 have one : ∀ (xs : Array Value), xs.all V.atom = true → ∀ (i : Nat) (x : Value), xs[i]? = some x → x.oneCell' = true := by
  intro xs h i x h1
  rw [Array.all_eq_true] at h
  obtain ⟨hi, rfl⟩ := Array.getElem?_eq_some_iff.1 h1
  have := h i hi
  revert this
  cases xs[i] <;> simp [V.atom, Value.oneCell']
 cases v with
 | agg cs => exact .agg _ _ rfl (arr cs ha) (one cs ha)
 | tuple vs =>
  refine .tuple _ _ rfl ?_
  intro i x y h1 h2
  rw [h1] at h2; cases h2
  simp only [flatV, Array.all_eq_true] at ha
  obtain ⟨hi, rfl⟩ := Array.getElem?_eq_some_iff.1 h1
  have := ha i hi
  simp only [Bool.or_eq_true] at this
  rcases this with h | h
  ·exact .atom _ h
  ·generalize vs[i] = z at h ⊢
   cases z with
   | agg cs => exact .agg _ _ rfl (arr cs h) (one cs h)
   | _ => simp at h
 | _ => exact .atom _ ha

theorem VRel.undef {μ : Mp} : VRel P n0 μ undef undef := .tuple _ _ rfl (by simp)

theorem VRel.bool_eq {μ : Mp} {b : Bool} {v' : Value} (h : VRel P n0 μ (.bool b) v') : v' = .bool b := h.atom_eq rfl
theorem VRel.int_eq {μ : Mp} {k : IntKind} {b : Int} {v' : Value} (h : VRel P n0 μ (.int k b) v') : v' = .int k b := h.atom_eq rfl

theorem VRel.tuple_inv {μ : Mp} {xs : Array Value} {v' : Value} (h : VRel P n0 μ (.tuple xs) v') :
  ∃ ys, v' = .tuple ys ∧ xs.size = ys.size ∧ ∀ (i : Nat) (x y : Value), xs[i]? = some x → ys[i]? = some y → VRel P n0 μ x y := by
 cases h with
 | atom _ h => simp [V.atom] at h
 | tuple _ ys hs hr => exact ⟨ys, rfl, hs, hr⟩

theorem VRel.agg_inv {μ : Mp} {xs : Array Value} {v' : Value} (h : VRel P n0 μ (.agg xs) v') :
  ∃ ys, v' = .agg ys ∧ xs.size = ys.size ∧ (∀ (i : Nat) (x y : Value), xs[i]? = some x → ys[i]? = some y → VRel P n0 μ x y) ∧
   ∀ (i : Nat) (x : Value), xs[i]? = some x → x.oneCell' = true := by
 cases h with
 | atom _ h => simp [V.atom] at h
 | agg _ ys hs hr h1 => exact ⟨ys, rfl, hs, hr, h1⟩

theorem VRel.iface_inv {μ : Mp} {t : TypeId} {x v' : Value} (h : VRel P n0 μ (.iface t x) v') : ∃ y, v' = .iface t y ∧ VRel P n0 μ x y := by
 cases h with
 | atom _ h => simp [V.atom] at h
 | iface _ _ y hy => exact ⟨y, rfl, hy⟩

theorem VRel.map_inv {μ : Mp} {b : Nat} {v' : Value} (h : VRel P n0 μ (.map (some b)) v') : ∃ m, v' = .map (some m.blk) ∧ μ b = some m := by
 cases h with
 | atom _ h => simp [V.atom] at h
 | map _ m hm => exact ⟨m, rfl, hm⟩

theorem VRel.oneCell {μ : Mp} {v v' : Value} (h : VRel P n0 μ v v') : v'.oneCell' = v.oneCell' := by
 cases h <;> rfl

theorem VRel.ptr_inv {μ : Mp} {a : Addr} {v' : Value} (h : VRel P n0 μ (.pointer (some a)) v') :
  (v' = .pointer (some a) ∧ a.block < n0) ∨ ∃ m, μ a.block = some m ∧ a.spot = none ∧ v' = .pointer (some ⟨m.blk, m.base + a.off, none⟩) := by
 cases h with
 | atom _ h => simp [V.atom] at h
 | oldPtr _ h => exact .inl ⟨rfl, h⟩
 | ptr b o m h => exact .inr ⟨m, h, rfl, rfl⟩

end

inductive Blk where
 | cells (cs : List Value) (ty : TypeId)
 | map (es : List (Value × Value))
 | iter (s : ByteArray) (pos : Nat)

structure St where
 blk : Nat → Option Blk
 next : Nat

namespace St
def alloc (st : St) (b : Blk) : St := ⟨fun i => if i = st.next then some b else st.blk i, st.next + 1⟩
def set (st : St) (i : Nat) (b : Blk) : St := ⟨fun j => if j = i then some b else st.blk j, st.next⟩
def kill (st : St) (i : Nat) : St := ⟨fun j => if j = i then none else st.blk j, st.next⟩
structure le (st st' : St) : Prop where
 next : st.next ≤ st'.next
 blk : ∀ i, i < st.next → st'.blk i = st.blk i

theorem le.refl (st : St) : st.le st := ⟨Nat.le_refl _, fun _ _ => rfl⟩
theorem le.trans {a b c : St} (h : a.le b) (k : b.le c) : a.le c :=
 ⟨Nat.le_trans h.next k.next, fun i hi => (k.blk i (Nat.lt_of_lt_of_le hi h.next)).trans (h.blk i hi)⟩
theorem le.alloc (st : St) (b : Blk) : st.le (st.alloc b) :=
 ⟨Nat.le_succ _, fun i hi => by simp [St.alloc, Nat.ne_of_lt hi]⟩
end St

def cellsOf (w0 : World) (st : St) (b : Nat) : Option (List Value) :=
 if b < w0.heap.size then
  match w0.heap[b]? with
  | some (.cells c _ _) => some c.toList
  | _ => none
 else match st.blk b with
  | some (.cells c _) => some c
  | _ => none

section
variable (P : Program) (w0 : World)

structure Sim (μ : Mp) (st : St) (w : World) : Prop where
 old : Below w0.heap.size w0 w
 next : w0.heap.size ≤ st.next
 fresh : ∀ b, st.next ≤ b → μ b = none ∧ st.blk b = none
 lo : ∀ b m, μ b = some m → w0.heap.size ≤ b ∧ w0.heap.size ≤ m.blk ∧ m.blk < w.heap.size
 hi : ∀ b, b < w0.heap.size → st.blk b = none
 cells : ∀ b cs ty m, st.blk b = some (.cells cs ty) → μ b = some m → m.ty = ty ∧ ∃ arr, w.heap[m.blk]? = some (.cells arr ty (0, 0)) ∧ arr.size = m.size ∧
  m.base + cs.length ≤ m.size ∧ (∀ (i : Nat) (v : Value), cs[i]? = some v → ∃ v', arr[m.base + i]? = some v' ∧ VRel P w0.heap.size μ v v') ∧ ∀ v ∈ cs, v.oneCell' = true
 maps : ∀ b es m, st.blk b = some (.map es) → μ b = some m → ∃ arr clock, w.heap[m.blk]? = some (.map arr clock) ∧ arr.size = es.length ∧
  ∀ (i : Nat) (k v : Value), es[i]? = some (k, v) → atom k = true ∧ ∃ e : MapEntry, arr[i]? = some e ∧ e.key = k ∧ VRel P w0.heap.size μ v e.val
 iters : ∀ b s pos m, st.blk b = some (.iter s pos) → μ b = some m → m.base = 0 ∧ w.heap[m.blk]? = some (.stringIter s pos)
 inj : ∀ b b' m m', (st.blk b).isSome = true → (st.blk b').isSome = true → μ b = some m → μ b' = some m' → m.blk = m'.blk → b = b'

structure Keep (μ : Mp) (st : St) (μ' : Mp) (st' : St) : Prop where
 next : st.next ≤ st'.next
 unborn : ∀ b, b < st.next → μ b = none → μ' b = none ∧ st'.blk b = st.blk b

variable {P w0}
theorem Keep.refl (μ : Mp) (st : St) : Keep μ st μ st := ⟨Nat.le_refl _, fun _ _ h => ⟨h, rfl⟩⟩
theorem Keep.trans {μ μ' μ'' : Mp} {st st' st'' : St} (h : Keep μ st μ' st') (k : Keep μ' st' μ'' st'') : Keep μ st μ'' st'' :=
 ⟨Nat.le_trans h.next k.next, fun b hb hm => by
  obtain ⟨h1, h2⟩ := h.unborn b hb hm
  obtain ⟨k1, k2⟩ := k.unborn b (Nat.lt_of_lt_of_le hb h.next) h1
  exact ⟨k1, k2.trans h2⟩⟩

abbrev Env := List (Nat × Value)

def evalO (env : Env) : Operand → Option Value
 | .tmp t => env.lookup t
 | .const v => if flatV v then some v else none
 | _ => none

structure EnvRel (P : Program) (n0 : Nat) (N : Nat) (μ : Mp) (env : Env) (tmps : Array Value) : Prop where
 size : tmps.size = N
 rel : ∀ t v, env.lookup t = some v → ∃ v', tmps[t]? = some v' ∧ VRel P n0 μ v v'

theorem EnvRel.ext {N n0 : Nat} {μ μ' : Mp} {env : Env} {tmps : Array Value} (he : Ext μ μ') (h : EnvRel P n0 N μ env tmps) : EnvRel P n0 N μ' env tmps :=
 ⟨h.size, fun t v ht => let ⟨v', h1, h2⟩ := h.rel t v ht; ⟨v', h1, h2.ext he⟩⟩

theorem lookup_cons (t d : Nat) (v : Value) (env : Env) : List.lookup t ((d, v) :: env) = if t = d then some v else env.lookup t := by
 simp only [List.lookup_cons]
 by_cases h : t = d
 ·simp [h]
 ·rw [if_neg h]
  have : (t == d) = false := by simp [h]
  rw [this]

theorem EnvRel.put {N n0 : Nat} {μ : Mp} {env : Env} {a : Act} (h : EnvRel P n0 N μ env a.tmps) {d : Nat} (hd : d < N) {v v' : Value} (hv : VRel P n0 μ v v') :
  EnvRel P n0 N μ ((d, v) :: env) (a.put (some d) v').tmps := by
 refine ⟨by simp [Act.put, h.size], fun t u ht => ?_⟩
 rw [lookup_cons] at ht
 by_cases e : t = d
 ·subst e
  simp at ht; subst ht
  exact ⟨v', by simp [Act.put, Array.getElem?_setIfInBounds, h.size, hd], hv⟩
 ·rw [if_neg e] at ht
  obtain ⟨u', h1, h2⟩ := h.rel t u ht
  exact ⟨u', by simp [Act.put, Array.getElem?_setIfInBounds, h1, Ne.symm e], h2⟩

theorem EnvRel.eval {N n0 : Nat} {μ : Mp} {env : Env} {a : Act} (h : EnvRel P n0 N μ env a.tmps) {x : Operand} {v : Value} (hx : evalO env x = some v) :
  VRel P n0 μ v (a.eval x) := by
 cases x with
 | tmp t =>
  obtain ⟨v', h1, h2⟩ := h.rel t v hx
  have : a.eval (.tmp t) = v' := by simp [Act.eval, Array.getD_eq_getD_getElem?, h1]
  rw [this]; exact h2
 | const u =>
  simp only [evalO] at hx
  split at hx
  ·cases hx; exact VRel.flat (by assumption)
  ·cases hx
 | global g => cases hx
 | func f => cases hx

end
end Go.Proofs.YtnphhelbianjpaaGreatDoor.V
namespace Go.Proofs.YtnphhelbianjpaaGreatDoor.V
open Go Go.RowKit

def pureV (P : Program) {α : Type} : Sem α → Option α
 | .pure a => some a
 | .program k => pureV P (k P)
 | _ => none

theorem pureV_run {P : Program} {α : Type} {s : Sem α} {a : α} (h : pureV P s = some a) (w : World) : s.run P w = .ok a w := by
 induction s with
 | pure b => simp only [pureV, Option.some.injEq] at h; subst h; rfl
 | program k ih => exact ih P h
 | _ => simp [pureV] at h

def pureF (P : Program) (s : Sem Value) : Option Value := (pureV P s).bind fun v => if flatV v then some v else none

theorem pureF_run {P : Program} {s : Sem Value} {v : Value} (h : pureF P s = some v) : (∀ w, s.run P w = .ok v w) ∧ flatV v = true := by
 unfold pureF at h
 cases hp : pureV P s with
 | none => simp [hp] at h
 | some u =>
  simp only [hp, Option.bind_some] at h
  split at h
  ·rename_i hf
   cases h
   exact ⟨fun w => pureV_run hp w, hf⟩
  ·cases h

def inV (n0 : Nat) : Value → Bool
 | .pointer (some a) => a.block < n0
 | .slice (some a) n c => decide (a.block < n0) || (decide (n = 0) && decide (c = 0))
 | v => atom v

def cellsAt (w0 : World) (st : St) (a : Addr) (n : Nat) : Option (List Value) :=
 match cellsOf w0 st a.block with
 | some cs =>
  if a.off + n ≤ cs.length ∧ a.spot = none then
   if a.block < w0.heap.size then
    if ((cs.drop a.off).take n).all (inV w0.heap.size) then some ((cs.drop a.off).take n) else none
   else some ((cs.drop a.off).take n)
  else none
 | none => none

section
variable {P : Program} {w0 : World}

theorem inV_rel {n0 : Nat} {μ : Mp} {v : Value} (h : inV n0 v = true) : VRel P n0 μ v v ∧ v.oneCell' = true := by
 cases v with
 | pointer a =>
  cases a with
  | none => exact ⟨.atom _ rfl, rfl⟩
  | some a => exact ⟨.oldPtr a (by simpa [inV] using h), rfl⟩
 | slice a n c =>
  cases a with
  | none => exact ⟨.atom _ rfl, rfl⟩
  | some a =>
   simp only [inV, Bool.or_eq_true, Bool.and_eq_true, decide_eq_true_eq] at h
   rcases h with h | ⟨rfl, rfl⟩
   ·exact ⟨.oldSlice a n c h, rfl⟩
   ·exact ⟨.oldE a a, rfl⟩
 | agg cs => simp [inV, V.atom] at h
 | tuple cs => simp [inV, V.atom] at h
 | _ => exact ⟨.atom _ h, rfl⟩

theorem addr_add (b o n : Nat) : (⟨b, o, none⟩ : Addr).add n = ⟨b, o + n, none⟩ := by
 unfold Addr.add; split <;> simp_all

theorem cellsAt_sound {μ : Mp} {st : St} {w : World} (hs : Sim P w0 μ st w) {a : Addr} {v' : Value} (hr : VRel P w0.heap.size μ (.pointer (some a)) v')
  {n : Nat} {cs : List Value} (hc : cellsAt w0 st a n = some cs) :
  ∃ (a' : Addr) (cs' : List Value), v' = .pointer (some a') ∧ cs.length = n ∧ cs'.length = n ∧ (∀ (j : Nat) (u : Value), cs'[j]? = some u → w.cell? (a'.add j) = some u) ∧
   (∀ (j : Nat) (x y : Value), cs[j]? = some x → cs'[j]? = some y → VRel P w0.heap.size μ x y) ∧ ∀ v ∈ cs, v.oneCell' = true := by
 unfold cellsAt cellsOf at hc
 rcases hr.ptr_inv with ⟨rfl, hb⟩ | ⟨m, hm, hsp, rfl⟩
 ·rw [if_pos hb] at hc
  cases hh : w0.heap[a.block]? with
  | none => simp [hh] at hc
  | some o =>
   cases o with
   | cells c ty fr =>
    simp only [hh] at hc
    split at hc
    ·rename_i hl
     obtain ⟨hl, hspot⟩ := hl
     split at hc
     ·rename_i hall
      cases hc
      have hlen : ((c.toList.drop a.off).take n).length = n := by simp at hl ⊢; omega
      refine ⟨a, _, rfl, hlen, hlen, ?_, ?_, ?_⟩
      ·intro j u hj
       have hblk : w.heap[a.block]? = some (.cells c ty fr) := by rw [hs.old.block a.block hb]; exact hh
       obtain ⟨b, o, s⟩ := a
       simp only at hspot hblk hj hl hb
       subst hspot
       rw [addr_add]
       simp only [World.cell?, hblk, Option.isSome_none, Bool.false_eq_true, if_false]
       rw [List.getElem?_take] at hj
       split at hj
       ·simpa using hj
       ·cases hj
      ·intro j x y hx hy
       rw [hx] at hy; cases hy
       exact (inV_rel (List.all_eq_true.1 hall x (List.mem_of_getElem? hx))).1
      ·intro x hx
       exact (inV_rel (P := P) (μ := μ) (List.all_eq_true.1 hall x hx)).2
     ·cases hc
    ·cases hc
   | _ => simp [hh] at hc
 ·have hlo := hs.lo _ _ hm
  have hnb : ¬ a.block < w0.heap.size := by omega
  simp only [if_neg hnb] at hc
  cases hh : st.blk a.block with
  | none => simp [hh] at hc
  | some o =>
   cases o with
   | cells c ty =>
    simp only [hh] at hc
    split at hc
    ·rename_i hl
     cases hc
     obtain ⟨hty, arr, harr, hsz, hfit, hcell, hone⟩ := hs.cells _ _ _ _ hh hm
     have hlen : ((c.drop a.off).take n).length = n := by simp; omega
     have key : ∀ j, j < n → ∃ y, arr[m.base + (a.off + j)]? = some y := by
      intro j hj
      have : m.base + (a.off + j) < arr.size := by omega
      exact ⟨arr[m.base + (a.off + j)], by simp [this]⟩
     refine ⟨⟨m.blk, m.base + a.off, none⟩, (arr.toList.drop (m.base + a.off)).take n, rfl, hlen, ?_, ?_, ?_, ?_⟩
     ·simp; omega
     ·intro j u hj
      rw [addr_add]
      simp only [World.cell?, harr, Option.isSome_none, Bool.false_eq_true, if_false]
      rw [List.getElem?_take] at hj
      split at hj
      ·simpa using hj
      ·cases hj
     ·intro j x y hx hy
      rw [List.getElem?_take] at hx hy
      split at hx
      ·rename_i hjn
       rw [if_pos hjn] at hy
       rw [List.getElem?_drop] at hx hy
       obtain ⟨y', hy', hrel⟩ := hcell _ _ hx
       simp only [Array.getElem?_toList] at hy
       rw [show m.base + a.off + j = m.base + (a.off + j) by omega] at hy
       rw [hy'] at hy; cases hy
       exact hrel
      ·cases hx
     ·intro x hx
      exact hone x (List.mem_of_mem_drop (List.mem_of_mem_take hx))
    ·cases hc
   | _ => simp [hh] at hc

inductive LOp where
 | mov (x : Operand)
 | pick (c a b : Operand)
 | bin (op : BinOp) (t : TypeId) (x y : Operand)
 | eqp (neg : Bool) (x y : Operand)
 | un (op : UnOp) (x : Operand)
 | conv (src dst : TypeId) (x : Operand)
 | idxS (t : TypeId) (x i : Operand)
 | slS (t : TypeId) (x : Operand) (lo hi : Option Operand)
 | slc (sz : Nat) (x : Operand) (lo hi : Option Operand)
 | slA (len sz : Nat) (x : Operand)
 | len (x : Operand)
 | lenS (x : Operand)
 | nilchk (x : Operand)
 | fa (off : Nat) (x : Operand)
 | iaS (sz : Nat) (x i : Operand)
 | iaA (len sz : Nat) (x i : Operand)
 | ld (n : Nat) (agg : Bool) (x : Operand)
 | fld (off n : Nat) (agg : Bool) (x : Operand)
 | ext (k : Nat) (x : Operand)
 | bld (zero : List Value) (places : List (Nat × Nat)) (parts : List (Nat × Operand))
 | mkI (t : TypeId) (x : Operand)
 | asrt (asserted : TypeId) (zero : Value) (x : Operand)
 | look (str : Bool) (zero : Value) (ok : Bool) (x i : Operand)
 | b2s (x : Operand)
 | min2 (x y : Operand)
 | clo (g : FuncId) (caps : List Operand)

def partOf (agg : Bool) (cs : List Value) : Option Value :=
 if agg then some (.agg cs.toArray) else match cs with
  | [v] => some v
  | _ => none

def cellsL : Value → List Value
 | .agg cs => cs.toList
 | v => [v]

def cellsQ : Value → Option (List Value)
 | .agg cs => some cs.toList
 | .tuple _ => none
 | v => some [v]

def fillL (places : List (Nat × Nat)) (cells : List Value) : List (Nat × List Value) → Option (List Value)
 | [] => some cells
 | (i, v) :: rest =>
  match places[i]? with
  | none => none
  | some (off, size) => if v.length = size ∧ off + size ≤ cells.length then fillL places (cells.take off ++ v ++ cells.drop (off + size)) rest else none

def lowOf : Option Value → Option Int
 | none => some 0
 | some (.int _ l) => some l
 | _ => none

def highOf (n : Nat) : Option Value → Option Int
 | none => some n
 | some (.int _ l) => some l
 | _ => none

def sliceV (n0 sz : Nat) (v : Value) (lo hi : Option Value) : Option Value :=
 match v, lowOf lo with
 | .slice a n c, some l =>
  match highOf n hi with
  | some h =>
   if 0 ≤ l ∧ l ≤ h ∧ h ≤ n then
    match a with
    | none => if n ≤ c then some (.slice none (h.toNat - l.toNat) (c - l.toNat)) else none
    | some a =>
     if a.block < n0 then
      if n ≤ c then some (.slice (some (if c = l.toNat then a else a.add (l.toNat * sz))) (h.toNat - l.toNat) (c - l.toNat)) else none
     else some (.slice (some ⟨a.block, a.off + l.toNat * sz, none⟩) (h.toNat - l.toNat) (if c = sz then sz else 0))
   else none
  | none => none
 | _, _ => none

def keyCmp (str : Bool) : Value → Value → Option Bool
 | .int j a, .int k b => if str = false ∧ j = k then some (a == b) else none
 | .string a, .string b => if str = true then some (a == b) else none
 | _, _ => none

def findD (str : Bool) (k : Value) : List (Value × Value) → Nat → Option (Option (Nat × Value))
 | [], _ => some none
 | e :: es, i => match keyCmp str k e.1 with
  | some true => some (some (i, e.2))
  | some false => findD str k es (i + 1)
  | none => none

def evalOpt (env : Env) : Option Operand → Option (Option Value)
 | none => some none
 | some x => (evalO env x).map some

def evalParts (env : Env) : List (Nat × Operand) → Option (List (Nat × List Value))
 | [] => some []
 | (i, x) :: r => match (evalO env x).bind cellsQ, evalParts env r with
  | some v, some l => some ((i, v) :: l)
  | _, _ => none

def evalArgs (env : Env) : List Operand → Option (List Value)
 | [] => some []
 | x :: r => match evalO env x, evalArgs env r with
  | some v, some l => some (v :: l)
  | _, _ => none

section
variable (P : Program) (w0 : World)
def LOp.eval (env : Env) (st : St) : LOp → Option Value
 | .mov x => evalO env x
 | .pick c a b => match evalO env c with
  | some (.bool t) => if t then evalO env a else evalO env b
  | _ => none
 | .bin op t x y => match evalO env x, evalO env y with
  | some a, some b => if flatV a && flatV b then pureF P (do eqGuard op t x y a b; binOp op t a b) else none
  | _, _ => none
 | .eqp neg x y => match evalO env x, evalO env y with
  | some (.pointer a), some (.pointer b) => if a.isSome && b.isSome then none else some (.bool (neg ^^ (a.isNone && b.isNone)))
  | _, _ => none
 | .un op x => match evalO env x with
  | some a => if flatV a then pureF P (Op.unary op a) else none
  | none => none
 | .conv s d x => match evalO env x with
  | some a => if flatV a then pureF P (convert s d a) else none
  | none => none
 | .idxS t x i => match evalO env x, evalO env i with
  | some a, some b => if flatV a && flatV b then pureF P (Instr.index t a b) else none
  | _, _ => none
 | .slS t x lo hi => match evalO env x, evalOpt env lo, evalOpt env hi with
  | some a, some l, some h => if flatV a && (l.all flatV) && (h.all flatV) then pureF P (Instr.slice t a l h none) else none
  | _, _, _ => none
 | .slc sz x lo hi => match evalO env x, evalOpt env lo, evalOpt env hi with
  | some a, some l, some h => sliceV w0.heap.size sz a l h
  | _, _, _ => none
 | .slA ln _ x => match evalO env x with
  | some (.pointer (some a)) => if a.block < w0.heap.size then none else some (.slice (some a) ln 0)
  | _ => none
 | .len x => match evalO env x with
  | some (.slice _ n _) => some (.int .i64 n)
  | _ => none
 | .lenS x => match evalO env x with
  | some (.string s) => some (.int .i64 s.size)
  | _ => none
 | .nilchk x => match evalO env x with
  | some (.pointer (some a)) => some (.pointer (some a))
  | _ => none
 | .fa off x => match evalO env x with
  | some (.pointer (some a)) => some (.pointer (some (a.add off)))
  | _ => none
 | .iaS sz x i => match evalO env x, evalO env i with
  | some (.slice (some a) n _), some (.int _ i) => if 0 ≤ i ∧ i < n then some (.pointer (some (a.add (i.toNat * sz)))) else none
  | _, _ => none
 | .iaA ln sz x i => match evalO env x, evalO env i with
  | some (.pointer (some a)), some (.int _ i) => if 0 ≤ i ∧ i < ln then some (.pointer (some (a.add (i.toNat * sz)))) else none
  | _, _ => none
 | .ld n agg x => match evalO env x with
  | some (.pointer (some a)) => match cellsAt w0 st a n with
   | some cs => partOf agg cs
   | none => none
  | _ => none
 | .fld off n agg x => match evalO env x with
  | some (.agg cs) => if off + n ≤ cs.size then partOf agg ((cs.toList.drop off).take n) else none
  | _ => none
 | .ext k x => match evalO env x with
  | some (.tuple vs) => vs[k]?
  | _ => none
 | .bld zero places parts => match evalParts env parts with
  | some l => (fillL places zero l).map fun cs => .agg cs.toArray
  | none => none
 | .mkI t x => (evalO env x).map (.iface t)
 | .asrt t zero x => match evalO env x with
  | some (.iface u v) => if u = t then some (.tuple #[v, .bool true]) else some (.tuple #[zero, .bool false])
  | some .nilIface => some (.tuple #[zero, .bool false])
  | _ => none
 | .look str zero ok x i => match evalO env x, evalO env i with
  | some m, some k =>
   match (match m with | .map none => some [] | .map (some b) => (match st.blk b with | some (.map es) => some es | _ => none) | _ => none) with
   | some es => match findD str k es 0 with
    | some (some (_, v)) => some (if ok then .tuple #[v, .bool true] else v)
    | some none => some (if ok then .tuple #[zero, .bool false] else zero)
    | none => none
   | none => none
  | _, _ => none
 | .b2s x => match evalO env x with
  | some (.slice none _ _) => some (.string .empty)
  | some (.slice (some a) n _) => match cellsAt w0 st a n with
   | some cs => if cs.all (fun c => match c with | .int .u8 _ => true | _ => false) then
     some (.string ⟨(cs.map fun c => match c with | .int _ q => UInt8.ofNat q.toNat | _ => 0).toArray⟩) else none
   | none => none
  | _ => none
 | .min2 x y => match evalO env x, evalO env y with
  | some (.int k a), some (.int _ b) => some (.int k (if b < a then b else a))
  | _, _ => none
 | .clo g caps => (evalArgs env caps).map fun vs => .func (.func g) #[] vs.toArray

def aggD : TypeDesc → Bool
 | .struct _ | .array _ _ => true
 | _ => false

def tyAgg (t : TypeId) : Option (Bool × Nat) :=
 match P.underlying t, P.info? t with
 | some d, some i => some (aggD d, i.size)
 | _, _ => none

def fieldTab (fs : Array Field) : Option (List (Nat × Nat)) :=
 fs.toList.mapM fun f => (P.info? f.type).map fun i => (f.offset, i.size)

def zeroOf (t : TypeId) : Option Value := (P.info? t).bind (·.zero)

def copB (b : Builtin) (args : List Operand) (tys : List TypeId) : Option LOp :=
 match b with
 | .len => match args, tys with
  | [x], [t] => (match P.underlying t with
   | some (.slice _) => some (.len x)
   | some .string => some (.lenS x)
   | _ => none)
  | _, _ => none
 | .min => match args with
  | [x, y] => some (.min2 x y)
  | _ => none
 | _ => none

def copL : Op → Option LOp
 | .move x => some (.mov x)
 | .assign x => some (.mov x)
 | .pick c a b => some (.pick c a b)
 | .binOp op t x y _ => match P.underlying t with
  | some (.pointer _) => (match op with | .eql => some (.eqp false x y) | .neq => some (.eqp true x y) | _ => none)
  | some _ => some (.bin op t x y)
  | none => none
 | .unOp op _ x => some (.un op x)
 | .convert s d x => match P.underlying s, P.underlying d with
  | some (.slice _), some .string => (match P.underlying s with
   | some (.slice e) => (match P.underlying e with | some (.int .u8) => some (.b2s x) | _ => none)
   | _ => none)
  | some (.int _), some _ => some (.conv s d x)
  | some .string, some .string => some (.conv s d x)
  | _, _ => none
 | .index t x i => some (.idxS t x i)
 | .slice t x lo hi none => match P.underlying t with
  | some .string => some (.slS t x lo hi)
  | some (.slice e) => (P.info? e).map fun i => .slc i.size x lo hi
  | some (.array n e) => (match lo, hi with | none, none => (P.info? e).map fun i => .slA n i.size x | _, _ => none)
  | _ => none
 | .call c => match c.callee with
  | .builtin b => copB P b c.args.toList c.argTypes.toList
  | _ => none
 | .nilCheck x => some (.nilchk x)
 | .fieldAddr s x f => match P.underlying s with
  | some (.struct fs) => (match fs[f]? with
   | some fd => (match P.info? fd.type with
    | some i => if i.size = 0 then none else some (.fa fd.offset x)
    | none => none)
   | none => none)
  | _ => none
 | .indexAddr t x i => match P.underlying t with
  | some (.slice e) => (P.info? e).map fun j => .iaS j.size x i
  | some (.array n e) => (P.info? e).map fun j => .iaA n j.size x i
  | _ => none
 | .load t x => (tyAgg P t).map fun (b, n) => .ld (if b then n else 1) b x
 | .field t x f => match P.underlying t with
  | some (.struct fs) => (match fs[f]? with
   | some fd => (tyAgg P fd.type).map fun (b, n) => .fld fd.offset (if b then n else 1) b x
   | none => none)
  | _ => none
 | .extract x k => some (.ext k x)
 | .build t parts => match P.underlying t with
  | some (.struct fs) => (match fieldTab P fs, zeroOf P t with
   | some tab, some (.agg cs) => if flatV (.agg cs) then some (.bld cs.toList tab parts.toList) else none
   | _, _ => none)
  | some (.array n e) => (match P.info? e, zeroOf P t with
   | some i, some (.agg cs) => if flatV (.agg cs) then some (.bld cs.toList ((List.range n).map fun k => (k * i.size, i.size)) parts.toList) else none
   | _, _ => none)
  | _ => none
 | .makeInterface t x => match P.underlying t with
  | some (.interface _) => none
  | some _ => some (.mkI t x)
  | none => none
 | .typeAssert x _ t true => match P.underlying t with
  | some (.interface _) => none
  | some _ => (match zeroOf P t with | some z => if flatV z then some (.asrt t z x) else none | none => none)
  | none => none
 | .lookup t x i ok => match P.underlying t with
  | some (.map k e) => (match P.underlying k, zeroOf P e with
   | some .string, some z => if flatV z then some (.look true z ok x i) else none
   | some (.int _), some z => if flatV z then some (.look false z ok x i) else none
   | _, _ => none)
  | _ => none
 | .makeFunc (.func g) first caps => if first.isEmpty then some (.clo g caps.toList) else none
 | _ => none
end
end
end Go.Proofs.YtnphhelbianjpaaGreatDoor.V
namespace Go.Proofs.YtnphhelbianjpaaGreatDoor.V
open Go Go.RowKit

section
variable {P : Program} {w0 : World}

theorem run_info {t : TypeId} {i : TypeInfo} (h : P.info? t = some i) (w : World) : (typeInfo t).run P w = .ok i w := by
 simp [typeInfo, h]
theorem run_size {t : TypeId} {i : TypeInfo} (h : P.info? t = some i) (w : World) : (sizeOf t).run P w = .ok i.size w := by
 simp [sizeOf, run_info h]
theorem run_zero {t : TypeId} {z : Value} (h : zeroOf P t = some z) (w : World) : (zeroValue t).run P w = .ok z w := by
 unfold zeroOf at h
 cases hi : P.info? t with
 | none => simp [hi] at h
 | some i =>
  simp only [hi, Option.bind_some] at h
  simp [zeroValue, run_info hi, h]
theorem run_agg {t : TypeId} {d : TypeDesc} (h : P.underlying t = some d) (w : World) : (isAgg t).run P w = .ok (aggD d) w := by
 unfold isAgg
 simp only [Sem.run_bind, run_underlying h, Result.andThen_ok]
 cases d <;> rfl

theorem tyAgg_eq {t : TypeId} {b : Bool} {n : Nat} (h : tyAgg P t = some (b, n)) : ∃ d i, P.underlying t = some d ∧ P.info? t = some i ∧ aggD d = b ∧ i.size = n := by
 unfold tyAgg at h
 cases hu : P.underlying t <;> cases hi : P.info? t <;> simp [hu, hi] at h
 exact ⟨_, _, rfl, rfl, h.1, h.2⟩

theorem rel_list {μ : Mp} {xs ys : List Value} (hl : xs.length = ys.length)
  (hr : ∀ (j : Nat) (x y : Value), xs[j]? = some x → ys[j]? = some y → VRel P w0.heap.size μ x y) (h1 : ∀ v ∈ xs, v.oneCell' = true) :
  VRel P w0.heap.size μ (.agg xs.toArray) (.agg ys.toArray) :=
 .agg _ _ (by simpa using hl) (fun i x y hx hy => hr i x y (by simpa using hx) (by simpa using hy)) (fun i x hx => h1 x (List.mem_of_getElem? (by simpa using hx)))

theorem load_part {μ : Mp} {st : St} {w : World} (hs : Sim P w0 μ st w) {a : Addr} {v' : Value} (hr : VRel P w0.heap.size μ (.pointer (some a)) v')
  {t : TypeId} {b : Bool} {n : Nat} (ht : tyAgg P t = some (b, n)) {cs : List Value} (hc : cellsAt w0 st a (if b then n else 1) = some cs) {v : Value}
  (hp : partOf b cs = some v) : ∃ u, (Instr.loadAt t v').run P w = .ok u w ∧ VRel P w0.heap.size μ v u := by
 obtain ⟨d, i, hu, hi, hd, hn⟩ := tyAgg_eq ht
 obtain ⟨a', cs', rfl, hl, hl', hcell, hrel, hone⟩ := cellsAt_sound hs hr hc
 simp only [Instr.loadAt, Instr.sureAddr, loadVar, pure_bind, Sem.run_bind, run_agg hu, Result.andThen_ok, hd]
 cases b with
 | true =>
  simp only [if_true] at hl hl' hc
  simp only [partOf, if_true, Option.some.injEq] at hp
  subst hp
  have hrun := run_loadCells_list (P := P) w a' cs' hcell
  rw [hl', ← hn] at hrun
  simp only [if_true, Sem.run_bind, run_size hi, Result.andThen_ok, hrun, Sem.run_pure]
  exact ⟨_, rfl, rel_list (by rw [hl, hl']) hrel hone⟩
 | false =>
  simp only [Bool.false_eq_true, if_false] at hl hl' hp
  simp only [partOf, Bool.false_eq_true, if_false] at hp
  match cs, hl, hp with
  | [x], _, hp =>
   cases hp
   match cs', hl' with
   | [y], _ =>
    have hy := hcell 0 y rfl
    have : a'.add 0 = a' := by simp [Addr.add]
    rw [this] at hy
    simp only [Bool.false_eq_true, if_false, run_load, hy]
    exact ⟨_, rfl, hrel 0 _ _ rfl rfl⟩

theorem part_sound {μ : Mp} {t : TypeId} {b : Bool} {n off : Nat} (ht : tyAgg P t = some (b, n)) {xs ys : Array Value} (hs : xs.size = ys.size)
  (hr : ∀ (i : Nat) (x y : Value), xs[i]? = some x → ys[i]? = some y → VRel P w0.heap.size μ x y) (h1 : ∀ (i : Nat) (x : Value), xs[i]? = some x → x.oneCell' = true)
  (hle : off + (if b then n else 1) ≤ xs.size) {v : Value} (hp : partOf b ((xs.toList.drop off).take (if b then n else 1)) = some v) (w : World) :
  ∃ u, (part t ys off).run P w = .ok u w ∧ VRel P w0.heap.size μ v u := by
 obtain ⟨d, i, hu, hi, hd, hn⟩ := tyAgg_eq ht
 simp only [part, Sem.run_bind, run_agg hu, Result.andThen_ok, hd]
 cases b with
 | true =>
  simp only [if_true] at hle hp
  simp only [partOf, if_true, Option.some.injEq] at hp
  subst hp
  simp only [if_true, Sem.run_bind, run_size hi, Result.andThen_ok, Sem.run_pure, hn]
  have he : ys.extract off (off + n) = ((ys.toList.drop off).take n).toArray := by
   apply Array.ext'
   simp [Array.toList_extract, List.extract_eq_take_drop]
  rw [he]
  refine ⟨_, rfl, rel_list (by simp [hs]) ?_ ?_⟩
  ·intro j x y hx hy
   rw [List.getElem?_take] at hx hy
   split at hx
   ·rename_i hj
    rw [if_pos hj, List.getElem?_drop] at hy
    rw [List.getElem?_drop] at hx
    exact hr _ _ _ (by simpa using hx) (by simpa using hy)
   ·cases hx
  ·intro x hx
   have := List.mem_of_mem_drop (List.mem_of_mem_take hx)
   obtain ⟨k, hk⟩ := List.mem_iff_getElem?.1 this
   exact h1 k x (by simpa using hk)
 | false =>
  simp only [Bool.false_eq_true, if_false] at hle hp ⊢
  have hx : off < xs.size := by omega
  have hy : off < ys.size := by omega
  simp only [partOf, Bool.false_eq_true, if_false] at hp
  have : (xs.toList.drop off).take 1 = [xs[off]] := by
   rw [List.take_one, List.head?_drop]; simp [hx]
  rw [this] at hp
  simp only [Option.some.injEq] at hp
  subst hp
  simp only [Array.getElem?_eq_getElem hy, Sem.run_pure]
  exact ⟨_, rfl, hr off _ _ (by simp [hx]) (by simp [hy])⟩

theorem rel_add {μ : Mp} {a : Addr} {v' : Value} (h : VRel P w0.heap.size μ (.pointer (some a)) v') (n : Nat) :
  ∃ a', v' = .pointer (some a') ∧ VRel P w0.heap.size μ (.pointer (some (a.add n))) (.pointer (some (a'.add n))) := by
 rcases h.ptr_inv with ⟨rfl, hb⟩ | ⟨m, hm, hsp, rfl⟩
 ·refine ⟨a, rfl, .oldPtr _ ?_⟩
  unfold Addr.add; split <;> exact hb
 ·refine ⟨_, rfl, ?_⟩
  obtain ⟨b, o, s⟩ := a
  simp only at hsp hm; subst hsp
  rw [addr_add, addr_add]
  have := VRel.ptr (P := P) (n0 := w0.heap.size) b (o + n) m hm
  rw [← Nat.add_assoc] at this
  exact this

theorem slice_inv {μ : Mp} {a : Addr} {n c : Nat} {v' : Value} (h : VRel P w0.heap.size μ (.slice (some a) n c) v') :
  ∃ a' c', v' = .slice (some a') n c' ∧ (0 < n → VRel P w0.heap.size μ (.pointer (some a)) (.pointer (some a'))) := by
 cases h with
 | atom _ h => simp [V.atom] at h
 | oldSlice _ _ _ h => exact ⟨_, _, rfl, fun _ => .oldPtr _ h⟩
 | slice b o _ _ c' m hm h1 h2 => exact ⟨_, _, rfl, fun _ => .ptr b o m hm⟩
 | sliceE _ _ a' _ _ _ => exact ⟨_, _, rfl, fun h => absurd h (Nat.lt_irrefl 0)⟩
 | oldE _ _ => exact ⟨_, _, rfl, fun h => absurd h (Nat.lt_irrefl 0)⟩

theorem bounds_run {n c : Nat} {lo hi : Option Value} {l h : Int} (hlo : lowOf lo = some l) (hhi : highOf n hi = some h) (h0 : 0 ≤ l) (h1 : l ≤ h) (h2 : h ≤ n) (hc : n ≤ c) (w : World) :
  (Instr.sliceBounds true n c lo hi none).run P w = .ok (l.toNat, h.toNat, c) w := by
 have low : ∀ (k : IntKind), (Instr.sliceBound (.int k l) h.toNat .sliceB).run P w = .ok l.toNat w := by
  intro k
  have hq : 0 ≤ l ∧ l ≤ (h.toNat : Int) := by omega
  simp only [Instr.sliceBound, asIntOf, pure_bind]
  rw [if_pos hq]; rfl
 have high : ∀ (k : IntKind), (Instr.sliceBound (.int k h) c .sliceAcap).run P w = .ok h.toNat w := by
  intro k
  have hq : 0 ≤ h ∧ h ≤ (c : Int) := by omega
  simp only [Instr.sliceBound, asIntOf, pure_bind]
  rw [if_pos hq]; rfl
 cases hi with
 | none =>
  simp [highOf] at hhi; subst hhi
  cases lo with
  | none => simp [lowOf] at hlo; subst hlo; simp [Instr.sliceBounds]
  | some v =>
   cases v <;> simp [lowOf] at hlo
   subst hlo
   have := low ‹_›
   simp [Instr.sliceBounds] at this ⊢
   rw [this]; simp
 | some v =>
  cases v <;> simp [highOf] at hhi
  subst hhi
  have hh := high ‹_›
  cases lo with
  | none => simp [lowOf] at hlo; subst hlo; simp [Instr.sliceBounds, hh]
  | some v =>
   cases v <;> simp [lowOf] at hlo
   subst hlo
   simp [Instr.sliceBounds, hh, low]

theorem lowOf_rel {μ : Mp} {lo : Option Value} {l : Int} (h : lowOf lo = some l) {lo' : Option Value} (hr : ∀ v, lo = some v → ∃ v', lo' = some v' ∧ VRel P w0.heap.size μ v v') (hn : lo = none → lo' = none) : lowOf lo' = some l := by
 cases lo with
 | none => rw [hn rfl]; exact h
 | some v =>
  obtain ⟨v', rfl, hv⟩ := hr v rfl
  cases v <;> simp [lowOf] at h
  rw [hv.int_eq]; simp [lowOf, h]

theorem highOf_rel {μ : Mp} {n : Nat} {lo : Option Value} {l : Int} (h : highOf n lo = some l) {lo' : Option Value} (hr : ∀ v, lo = some v → ∃ v', lo' = some v' ∧ VRel P w0.heap.size μ v v') (hn : lo = none → lo' = none) : highOf n lo' = some l := by
 cases lo with
 | none => rw [hn rfl]; exact h
 | some v =>
  obtain ⟨v', rfl, hv⟩ := hr v rfl
  cases v <;> simp [highOf] at h
  rw [hv.int_eq]; simp [highOf, h]

theorem slice_sound {μ : Mp} (hmu : ∀ b m, μ b = some m → w0.heap.size ≤ b) {t e : TypeId} {i : TypeInfo} (hu : P.underlying t = some (.slice e)) (hi : P.info? e = some i) {v v' u : Value} (hv : VRel P w0.heap.size μ v v')
  {lo hi' lo' hi'' : Option Value} (hs : sliceV w0.heap.size i.size v lo hi' = some u)
  (hlr : ∀ v, lo = some v → ∃ v', lo' = some v' ∧ VRel P w0.heap.size μ v v') (hln : lo = none → lo' = none)
  (hhr : ∀ v, hi' = some v → ∃ v', hi'' = some v' ∧ VRel P w0.heap.size μ v v') (hhn : hi' = none → hi'' = none) (w : World) :
  ∃ u', (Instr.sliceAt t v' lo' hi'' none).run P w = .ok u' w ∧ VRel P w0.heap.size μ u u' := by
 unfold sliceV at hs
 split at hs
 ·rename_i a n c l hlo
  have hlo' := lowOf_rel hlo hlr hln
  split at hs
  ·rename_i h hhi
   have hhi' := highOf_rel hhi hhr hhn
   split at hs
   ·rename_i hb
    obtain ⟨h0, h1, h2⟩ := hb
    have run : ∀ (a' : Option Addr) (c' : Nat), n ≤ c' → (Instr.sliceAt t (.slice a' n c') lo' hi'' none).run P w =
      .ok (.slice (if c' = l.toNat then a' else a'.map (·.add (l.toNat * i.size))) (h.toNat - l.toNat) (c' - l.toNat)) w := by
     intro a' c' hc
     simp only [Instr.sliceAt, Sem.run_bind, run_underlying hu, Result.andThen_ok, Instr.slice, bounds_run hlo' hhi' h0 h1 h2 hc, run_size hi, Sem.run_pure]
    cases a with
    | none =>
     simp only at hs
     split at hs
     ·rename_i hnc
      cases hs
      cases hv with
      | atom _ _ =>
       refine ⟨_, run none c hnc, ?_⟩
       have : (if c = l.toNat then (none : Option Addr) else (none : Option Addr).map (·.add (l.toNat * i.size))) = none := by split <;> rfl
       rw [this]
       exact .atom _ rfl
     ·cases hs
    | some a =>
     simp only at hs
     split at hs
     ·rename_i hblk
      split at hs
      ·rename_i hnc
       cases hs
       cases hv with
       | atom _ hh => simp [V.atom] at hh
       | oldSlice _ _ _ _ =>
        refine ⟨_, run (some a) c hnc, ?_⟩
        have hb' : ∀ k, (a.add k).block = a.block := by intro k; unfold Addr.add; split <;> rfl
        split
        ·exact .oldSlice _ _ _ hblk
        ·exact .oldSlice _ _ _ (by rw [hb']; exact hblk)
       | oldE _ a' =>
        have hl0 : l = 0 := by omega
        have hh0 : h = 0 := by omega
        subst hl0; subst hh0
        exact ⟨_, run (some a') 0 hnc, .oldE _ _⟩
       | slice b o _ _ c' m hm hn' hroom =>
        exact absurd hblk (by have := hmu _ _ hm; simp only; omega)
       | sliceE b o a' _ m hm =>
        exact absurd hblk (by have := hmu _ _ hm; simp only; omega)
      ·cases hs
     ·rename_i hblk
      cases hs
      cases hv with
      | atom _ hh => simp [V.atom] at hh
      | oldSlice _ _ _ hh => exact absurd hh hblk
      | oldE _ a' =>
       have hl0 : l = 0 := by omega
       have hh0 : h = 0 := by omega
       subst hl0; subst hh0
       refine ⟨_, run (some a') 0 (Nat.le_refl _), ?_⟩
       have : (if 0 = i.size then i.size else 0) = 0 := by split <;> simp_all
       simp only [this]
       exact .oldE _ _
      | slice b o _ _ c' m hm hn' hroom =>
       refine ⟨_, run _ c' hn', ?_⟩
       by_cases hcl : c' = l.toNat
       ·have : h.toNat - l.toNat = 0 := by omega
        rw [if_pos hcl, this, hcl, Nat.sub_self]
        exact .sliceE _ _ _ _ _ hm
       ·rw [if_neg hcl]
        simp only [Option.map_some, addr_add]
        have key := VRel.slice (P := P) (n0 := w0.heap.size) (μ := μ) b (o + l.toNat * i.size) (h.toNat - l.toNat) (if c = i.size then i.size else 0) (c' - l.toNat) m hm (by omega) ?_
        ·rw [← Nat.add_assoc] at key; exact key
        ·intro hne
         split at hne
         ·rename_i hci
          rw [if_pos hci]
          obtain ⟨r1, r2⟩ := hroom (by omega)
          refine ⟨by omega, ?_⟩
          have e1 : c' = l.toNat + (c' - l.toNat) := by omega
          rw [hci, e1, Nat.add_mul] at r2
          omega
         ·exact absurd rfl hne
      | sliceE b o a' _ m hm =>
       have hl0 : l = 0 := by omega
       have hh0 : h = 0 := by omega
       subst hl0; subst hh0
       exact ⟨_, run (some a') 0 (Nat.le_refl _), .sliceE _ _ _ _ _ hm⟩
   ·cases hs
  ·cases hs
 ·cases hs

structure RelC (P : Program) (n0 : Nat) (μ : Mp) (xs ys : List Value) : Prop where
 len : xs.length = ys.length
 rel : ∀ (j : Nat) (x y : Value), xs[j]? = some x → ys[j]? = some y → VRel P n0 μ x y
 one : ∀ v ∈ xs, v.oneCell' = true

theorem RelC.ext {n0 : Nat} {μ μ' : Mp} (he : Ext μ μ') {xs ys : List Value} (h : RelC P n0 μ xs ys) : RelC P n0 μ' xs ys :=
 ⟨h.len, fun j x y hx hy => (h.rel j x y hx hy).ext he, h.one⟩
theorem RelC.append {n0 : Nat} {μ : Mp} {xs ys xs' ys' : List Value} (h : RelC P n0 μ xs ys) (h' : RelC P n0 μ xs' ys') : RelC P n0 μ (xs ++ xs') (ys ++ ys') := by
 refine ⟨by simp [h.len, h'.len], ?_, ?_⟩
 ·intro j x y hx hy
  rw [List.getElem?_append] at hx hy
  rw [← h.len] at hy
  split at hx
  ·rename_i hj
   rw [if_pos hj] at hy
   exact h.rel _ _ _ hx hy
  ·rename_i hj
   rw [if_neg hj] at hy
   exact h'.rel _ _ _ hx hy
 ·intro v hv
  rcases List.mem_append.1 hv with hv | hv
  ·exact h.one v hv
  ·exact h'.one v hv
theorem RelC.take {n0 : Nat} {μ : Mp} {xs ys : List Value} (h : RelC P n0 μ xs ys) (n : Nat) : RelC P n0 μ (xs.take n) (ys.take n) := by
 refine ⟨by simp [h.len], ?_, fun v hv => h.one v (List.mem_of_mem_take hv)⟩
 intro j x y hx hy
 rw [List.getElem?_take] at hx hy
 split at hx
 ·rename_i hj; rw [if_pos hj] at hy; exact h.rel _ _ _ hx hy
 ·cases hx
theorem RelC.drop {n0 : Nat} {μ : Mp} {xs ys : List Value} (h : RelC P n0 μ xs ys) (n : Nat) : RelC P n0 μ (xs.drop n) (ys.drop n) := by
 refine ⟨by simp [h.len], ?_, fun v hv => h.one v (List.mem_of_mem_drop hv)⟩
 intro j x y hx hy
 rw [List.getElem?_drop] at hx hy
 exact h.rel _ _ _ hx hy
theorem RelC.agg {μ : Mp} {xs ys : List Value} (h : RelC P w0.heap.size μ xs ys) : VRel P w0.heap.size μ (.agg xs.toArray) (.agg ys.toArray) :=
 rel_list h.len h.rel h.one
theorem RelC.one_of {n0 : Nat} {μ : Mp} {xs ys : List Value} (h : RelC P n0 μ xs ys) : ∀ v ∈ ys, v.oneCell' = true := by
 intro v hv
 obtain ⟨j, hj⟩ := List.mem_iff_getElem?.1 hv
 have hlt : j < xs.length := by rw [h.len]; exact (List.getElem?_eq_some_iff.1 hj).1
 rw [(h.rel j xs[j] v (by simp [hlt]) hj).oneCell]
 exact h.one _ (List.getElem_mem _)

theorem cellsQ_rel {n0 : Nat} {μ : Mp} {v v' : Value} (h : VRel P n0 μ v v') {cs : List Value} (hc : cellsQ v = some cs) : RelC P n0 μ cs v'.cells.toList := by
 have single : ∀ {x y : Value}, VRel P n0 μ x y → x.oneCell' = true → RelC P n0 μ [x] [y] := by
  intro x y hxy h1
  refine ⟨rfl, ?_, by simpa using h1⟩
  intro j a b ha hb
  cases j with
  | zero => simp at ha hb; subst ha; subst hb; exact hxy
  | succ j => simp at ha
 have h0 := h
 cases h with
 | agg xs ys hs hr h1 =>
  cases hc
  exact ⟨by simpa [Value.cells] using hs, fun j x y hx hy => hr j x y (by simpa using hx) (by simpa [Value.cells] using hy), fun v hv => by
   obtain ⟨j, hj⟩ := List.mem_iff_getElem?.1 hv
   exact h1 j v (by simpa using hj)⟩
 | tuple xs ys hs hr => cases hc
 | atom v ha =>
  cases v <;> first | (simp [V.atom] at ha; done) | (cases hc; exact single h0 rfl)
 | _ => cases hc; exact single h0 rfl

theorem fold_set (off : Nat) : ∀ (v : List Value) (j : Nat) (cs : Array Value), off + j + v.length ≤ cs.size →
  (v.zipIdx j).foldl (fun (cs : Array Value) (p : Value × Nat) => cs.setIfInBounds (off + p.2) p.1) cs =
   (cs.toList.take (off + j) ++ v ++ cs.toList.drop (off + j + v.length)).toArray := by
 intro v
 induction v with
 | nil => intro j cs h; simp
 | cons x v ih =>
  intro j cs h
  simp only [List.length_cons] at h
  simp only [List.zipIdx_cons, List.foldl_cons]
  rw [ih (j + 1) _ (by simp; omega)]
  congr 1
  have hlt : off + j < cs.toList.length := by simp; omega
  simp only [Array.toList_setIfInBounds]
  apply List.ext_getElem?
  intro k
  simp only [List.getElem?_append, lA, List.length_take, List.length_set, List.getElem?_take, List.getElem?_drop, List.getElem?_set, List.getElem?_cons, List.length_cons, Array.length_toList, Array.getElem?_toList]
  simp only [Array.length_toList] at hlt
  have e1 : min (off + (j + 1)) cs.size = off + j + 1 := by omega
  have e2 : min (off + j) cs.size = off + j := by omega
  rw [e1, e2]
  by_cases c1 : k < off + j
  ·have : off + j ≠ k := by omega
   simp [c1, show k < off + j + 1 + v.length by omega, show k < off + j + 1 by omega, show k < off + (j + 1) by omega, this, show k < off + j + (v.length + 1) by omega]
  ·by_cases c2 : k = off + j
   ·subst c2
    simp [hlt, show off + j < off + j + 1 + v.length by omega, show off + j < off + (j + 1) by omega]
   ·by_cases c3 : k < off + j + 1 + v.length
    ·have e3 : k - (off + j) ≠ 0 := by omega
     simp [c3, c1, show ¬ k < off + j + 1 by omega, show k < off + j + (v.length + 1) by omega, e3, show k - (off + j + 1) = k - (off + j) - 1 by omega]
    ·simp [c3, show ¬ k < off + j + (v.length + 1) by omega]
     have e4 : off + (j + 1) + v.length + (k - (off + j + 1 + v.length)) = off + j + (v.length + 1) + (k - (off + j + (v.length + 1))) := by omega
     have e5 : off + j ≠ off + j + (v.length + 1) + (k - (off + j + (v.length + 1))) := by omega
     rw [e4]
     simp [e5]

theorem fill_rel {n0 : Nat} {μ : Mp} (tab : List (Nat × Nat)) : ∀ (l : List (Nat × List Value)) (l' : List (Nat × Value)) (cs cs' : List Value),
  l.length = l'.length → (∀ (j : Nat) (x : Nat × List Value) (y : Nat × Value), l[j]? = some x → l'[j]? = some y → x.1 = y.1 ∧ RelC P n0 μ x.2 y.2.cells.toList) →
  RelC P n0 μ cs cs' → ∀ r, fillL tab cs l = some r → ∃ r', Instr.fill (tab[·]?) cs'.toArray l' = some r'.toArray ∧ RelC P n0 μ r r' := by
 intro l
 induction l with
 | nil =>
  intro l' cs cs' hl _ hc r hr
  match l', hl with
  | [], _ =>
   simp only [fillL, Option.some.injEq] at hr
   subst hr
   exact ⟨cs', rfl, hc⟩
 | cons x l ih =>
  intro l' cs cs' hl hrel hc r hr
  match l', hl with
  | y :: l', hl =>
   obtain ⟨i, v⟩ := x
   obtain ⟨i', v'⟩ := y
   obtain ⟨e1, e2⟩ := hrel 0 _ _ rfl rfl
   simp only at e1 e2
   subst e1
   simp only [fillL] at hr
   simp only [Instr.fill]
   cases hp : tab[i]? with
   | none => simp [hp] at hr
   | some q =>
    obtain ⟨off, size⟩ := q
    simp only [hp] at hr ⊢
    split at hr
    ·rename_i hcond
     obtain ⟨c1, c2⟩ := hcond
     have hv : v'.cells.size = size := by rw [← c1, e2.len]; simp
     have hsz : cs'.length = cs.length := hc.len.symm
     have hnot : (decide (v'.cells.size ≠ size) || decide (off + v'.cells.size > cs'.toArray.size)) = false := by
      simp [hv, hsz]; omega
     rw [if_neg (by rw [hnot]; simp)]
     have hf := fold_set off v'.cells.toList 0 cs'.toArray (by simp [hv, hsz]; omega)
     have hf' : v'.cells.zipIdx.foldl (fun cs x => match x with | (c, j) => cs.setIfInBounds (off + j) c) cs'.toArray =
       (cs'.take off ++ v'.cells.toList ++ cs'.drop (off + size)).toArray := by
      rw [← Array.foldl_toList, Array.toList_zipIdx]
      simpa [hv] using hf
     rw [hf']
     refine ih l' _ _ (by simpa using hl) (fun j a b ha hb => hrel (j + 1) a b (by simpa using ha) (by simpa using hb)) ?_ r hr
     exact ((hc.take off).append e2).append (hc.drop _)
    ·cases hr

end
end Go.Proofs.YtnphhelbianjpaaGreatDoor.V
namespace Go.Proofs.YtnphhelbianjpaaGreatDoor.V
open Go Go.RowKit

section
variable {P : Program} {w0 : World}

theorem fieldTab_run (w : World) : ∀ (l : List Field) (tab : List (Nat × Nat)), (l.mapM fun f => (P.info? f.type).map fun i => (f.offset, i.size)) = some tab →
  (l.mapM (fun f => do pure (f.offset, ← sizeOf f.type) : Field → Sem (Nat × Nat))).run P w = .ok tab w := by
 intro l
 induction l with
 | nil => intro tab h; simp only [List.mapM_nil] at h ⊢; cases h; rfl
 | cons f l ih =>
  intro tab h
  simp only [List.mapM_cons] at h ⊢
  cases hi : P.info? f.type with
  | none => simp [hi] at h
  | some i =>
   simp only [hi, Option.map_some, Option.bind_eq_bind, Option.bind_some] at h
   cases hl : (l.mapM fun f => (P.info? f.type).map fun i => (f.offset, i.size)) with
   | none => simp [hl] at h
   | some tab' =>
    simp only [hl, Option.bind_some] at h
    cases h
    have := ih tab' hl
    simp only [Sem.run_bind, run_size hi, Result.andThen_ok, Sem.run_pure, this]

theorem build_run {t : TypeId} {fs : Array Field} {tab : List (Nat × Nat)} {z : Value} (hu : P.underlying t = some (.struct fs)) (ht : fieldTab P fs = some tab)
  (hz : zeroOf P t = some z) (parts : Array (Nat × Value)) {cs : Array Value} (hf : Instr.fill (tab[·]?) z.cells parts.toList = some cs) (w : World) :
  (Instr.build t parts).run P w = .ok (.agg cs) w := by
 have hm : (fs.mapM (fun f => do pure (f.offset, ← sizeOf f.type) : Field → Sem (Nat × Nat))).run P w = .ok tab.toArray w := by
  rw [Array.mapM_eq_mapM_toList]
  simp only [Sem.run_map]
  rw [fieldTab_run w fs.toList tab ht]
  rfl
 simp only [Instr.build, Sem.run_bind, run_zero hz, Result.andThen_ok, run_underlying hu, hm]
 have : (fun (i : Nat) => tab.toArray[i]?) = (fun (i : Nat) => tab[i]?) := by funext i; simp
 rw [this, hf]
 rfl

theorem fill_mono {p p' : Nat → Option (Nat × Nat)} (hp : ∀ i x, p i = some x → p' i = some x) : ∀ (l : List (Nat × Value)) (z r : Array Value), Instr.fill p z l = some r → Instr.fill p' z l = some r
 | [], _, _, h => h
 | (i, v) :: rest, z, r, h => by
  simp only [Instr.fill] at h ⊢
  cases hi : p i with
  | none => rw [hi] at h; cases h
  | some x =>
   rw [hi] at h
   rw [hp i x hi]
   obtain ⟨off, size⟩ := x
   simp only at h ⊢
   split at h
   ·cases h
   ·rename_i hc
    rw [if_neg hc]
    exact fill_mono hp rest _ r h
theorem build_run_arr {t e : TypeId} {n : Nat} {i : TypeInfo} {z : Value} (hu : P.underlying t = some (.array n e)) (hi : P.info? e = some i)
  (hz : zeroOf P t = some z) (parts : Array (Nat × Value)) {cs : Array Value} (hf : Instr.fill (((List.range n).map fun k => (k * i.size, i.size))[·]?) z.cells parts.toList = some cs) (w : World) :
  (Instr.build t parts).run P w = .ok (.agg cs) w := by
 simp only [Instr.build, Sem.run_bind, run_zero hz, Result.andThen_ok, run_underlying hu, run_size hi]
 have := fill_mono (p' := fun k => some (k * i.size, i.size)) (fun k x hx => by
  simp only [List.getElem?_map, Option.map_eq_some_iff] at hx
  obtain ⟨k', h1, h2⟩ := hx
  have : k' = k := by
   have := (List.getElem?_eq_some_iff.1 h1).2
   simpa using this.symm
  rw [← h2, this]) _ _ _ hf
 rw [this]
 rfl

theorem evalParts_rel {μ : Mp} {env : Env} {a : Act} : ∀ (parts : List (Nat × Operand)) (l : List (Nat × List Value)),
  (∀ p ∈ parts, ∀ u, evalO env p.2 = some u → VRel P w0.heap.size μ u (a.eval p.2)) → evalParts env parts = some l →
  l.length = (parts.map fun p => (p.1, a.eval p.2)).length ∧
  ∀ (j : Nat) (x : Nat × List Value) (y : Nat × Value), l[j]? = some x → (parts.map fun p => (p.1, a.eval p.2))[j]? = some y → x.1 = y.1 ∧ RelC P w0.heap.size μ x.2 y.2.cells.toList := by
 intro parts
 induction parts with
 | nil => intro l _ h; cases h; exact ⟨rfl, by simp⟩
 | cons p parts ih =>
  intro l hr h
  obtain ⟨i, x⟩ := p
  simp only [evalParts] at h
  cases he : evalO env x with
  | none => simp [he] at h
  | some v =>
   cases hq : cellsQ v with
   | none => simp [he, hq] at h
   | some cs =>
    cases hl : evalParts env parts with
    | none => simp [he, hq, hl] at h
    | some l' =>
     simp only [he, hq, hl, Option.bind_some] at h
     cases h
     obtain ⟨i1, i2⟩ := ih l' (fun p hp => hr p (List.mem_cons_of_mem _ hp)) hl
     refine ⟨by simpa using i1, ?_⟩
     intro j x' y hx hy
     cases j with
     | zero =>
      simp at hx hy; subst hx; subst hy
      exact ⟨rfl, cellsQ_rel (hr (i, x) (List.mem_cons_self ..) v he) hq⟩
     | succ j => exact i2 j x' y (by simpa using hx) (by simpa using hy)

theorem relC_flat {n0 : Nat} {μ : Mp} {z : Value} (hz : flatV z = true) (ht : ∀ vs, z ≠ .tuple vs) : RelC P n0 μ (cellsL z) z.cells.toList := by
 have h := VRel.flat (P := P) (n0 := n0) (μ := μ) hz
 have hq : cellsQ z = some (cellsL z) := by
  cases z <;> first | rfl | exact absurd rfl (ht _)
 exact cellsQ_rel h hq

theorem keyCmp_now {str : Bool} {d : TypeDesc} (hd : (str = true ∧ d = .string) ∨ (str = false ∧ ∃ i, d = .int i)) {k e : Value} {b : Bool} (h : keyCmp str k e = some b) :
  Instr.sameNow d k e = some b := by
 cases k <;> cases e <;> simp only [keyCmp] at h <;> try (cases h; done)
 ·split at h
  ·rename_i hc
   obtain ⟨h1, rfl⟩ := hc
   rcases hd with ⟨h2, _⟩ | ⟨_, i, rfl⟩
   ·rw [h1] at h2; cases h2
   ·simpa [Instr.sameNow] using h
  ·cases h
 ·split at h
  ·rename_i hc
   rcases hd with ⟨_, rfl⟩ | ⟨h2, _⟩
   ·simpa [Instr.sameNow] using h
   ·rw [hc] at h2; cases h2
  ·cases h

theorem findD_now {str : Bool} {d : TypeDesc} (hd : (str = true ∧ d = .string) ∨ (str = false ∧ ∃ i, d = .int i)) {k : Value} {μ : Mp} :
  ∀ (es : List (Value × Value)) (arr : List MapEntry) (i : Nat), arr.length = es.length →
  (∀ (j : Nat) (k v : Value), es[j]? = some (k, v) → ∃ e : MapEntry, arr[j]? = some e ∧ e.key = k ∧ VRel P w0.heap.size μ v e.val) → ∀ r, findD str k es i = some r →
  match r with
  | none => Instr.findNow d k arr i = some none
  | some (j, v) => ∃ v', Instr.findNow d k arr i = some (some (j, v')) ∧ VRel P w0.heap.size μ v v' ∧ i ≤ j ∧ j < i + es.length := by
 intro es
 induction es with
 | nil =>
  intro arr i hl _ r hr
  match arr, hl with
  | [], _ => cases hr; rfl
 | cons e es ih =>
  intro arr i hl hrel r hr
  match arr, hl with
  | a :: arr, hl =>
   obtain ⟨key, val⟩ := e
   obtain ⟨a', ha, hk, hv⟩ := hrel 0 key val rfl
   simp at ha; subst ha
   simp only [findD] at hr
   cases hc : keyCmp str k key with
   | none => simp [hc] at hr
   | some b =>
    have hs := keyCmp_now hd hc
    rw [← hk] at hs
    cases b with
    | true =>
     simp only [hc, Option.some.injEq] at hr
     subst hr
     exact ⟨_, by simp only [Instr.findNow, hs], hv, Nat.le_refl _, by simp⟩
    | false =>
     simp only [hc] at hr
     have := ih arr (i + 1) (by simpa using hl) (fun j k v hj => hrel (j + 1) k v (by simpa using hj)) r hr
     cases r with
     | none => simpa only [Instr.findNow, hs] using this
     | some q =>
      obtain ⟨j, v⟩ := q
      obtain ⟨v', h1, h2, h3, h4⟩ := this
      exact ⟨v', by simpa only [Instr.findNow, hs] using h1, h2, by omega, by simp; omega⟩

theorem bytes_run (f : Value → ByteArray → Sem (ForInStep ByteArray)) (hf : ∀ n s, f (.int .u8 n) s = pure (ForInStep.yield (s.push (UInt8.ofNat n.toNat)))) (w : World) :
  ∀ (cs : List Value) (s : ByteArray), cs.all (fun c => match c with | .int .u8 _ => true | _ => false) = true →
  (forIn cs s f).run P w = .ok ⟨s.data ++ (cs.map fun c => match c with | .int _ q => UInt8.ofNat q.toNat | _ => 0).toArray⟩ w := by
 intro cs
 induction cs with
 | nil => intro s _; simp
 | cons c cs ih =>
  intro s h
  simp only [List.all_cons, Bool.and_eq_true] at h
  obtain ⟨h1, h2⟩ := h
  cases c with
  | int k q =>
   cases k <;> simp at h1
   simp only [List.forIn_cons, hf]
   have := ih (s.push (UInt8.ofNat q.toNat)) h2
   simp only [Sem.run_bind, Sem.run_pure, Result.andThen_ok]
   rw [this]
   congr 1
   apply ByteArray.ext
   simp [ByteArray.push]
  | _ => simp at h1

theorem evalArgs_relV {μ : Mp} {env : Env} {a : Act} : ∀ (xs : List Operand) (vs : List Value), (∀ x ∈ xs, ∀ u, evalO env x = some u → VRel P w0.heap.size μ u (a.eval x)) → evalArgs env xs = some vs →
  vs.length = (xs.map a.eval).length ∧ ∀ (j : Nat) (x y : Value), vs[j]? = some x → (xs.map a.eval)[j]? = some y → VRel P w0.heap.size μ x y
 | [], vs, _, h => by cases h; exact ⟨rfl, by simp⟩
 | x :: xs, vs, hr, h => by
  simp only [evalArgs] at h
  cases h1 : evalO env x with
  | none => simp [h1] at h
  | some v =>
   cases h2 : evalArgs env xs with
   | none => simp [h1, h2] at h
   | some l =>
    simp only [h1, h2] at h
    cases h
    obtain ⟨p1, p2⟩ := evalArgs_relV xs l (fun y hy => hr y (List.mem_cons_of_mem _ hy)) h2
    refine ⟨by simp [p1], ?_⟩
    intro j a' b' ha hb
    cases j with
    | zero => simp at ha hb; subst ha; subst hb; exact hr x (List.mem_cons_self ..) v h1
    | succ j => exact p2 j a' b' (by simpa using ha) (by simpa using hb)

theorem light_sound {o : Oper} {l : LOp} (hc : copL P o.op = some l) {env : Env} {st : St} {v : Value} (he : l.eval P w0 env st = some v)
  {μ : Mp} {w : World} {a : Act} (hs : Sim P w0 μ st w) (hr : ∀ x ∈ o.op.operands.toList, ∀ u, evalO env x = some u → VRel P w0.heap.size μ u (a.eval x)) :
  ∃ v', (execOp a.eval o).run P w = .ok (.value v') w ∧ VRel P w0.heap.size μ v v' := by
 obtain ⟨dst, op, type, pos, after, guard⟩ := o
 simp only at hc hr
 have val : ∀ (s : Sem Value) (v' : Value), s.run P w = .ok v' w → (do pure (Next.value (← s)) : Sem Next).run P w = .ok (.value v') w := by
  intro s v' h; simp [h]
 cases op with
 | move x =>
  cases hc
  exact ⟨_, rfl, hr x (by simp [Op.operands]) v he⟩
 | assign x =>
  cases hc
  exact ⟨_, rfl, hr x (by simp [Op.operands]) v he⟩
 | pick c x y =>
  cases hc
  simp only [LOp.eval] at he
  split at he
  ·rename_i t ht
   have h1 := (hr c (by simp [Op.operands]) _ ht).bool_eq
   cases t with
   | true =>
    refine ⟨a.eval x, by simp [execOp, h1, asBool], hr x (by simp [Op.operands]) v (by simpa using he)⟩
   | false =>
    refine ⟨a.eval y, by simp [execOp, h1, asBool], hr y (by simp [Op.operands]) v (by simpa using he)⟩
  ·cases he
 | binOp op t x y yt =>
  simp only [copL] at hc
  split at hc
  ·rename_i e hu
   have key : ∀ neg : Bool, (∀ (p q : Option Addr), (p.isSome && q.isSome) = false → (do eqGuard op t x y (.pointer p) (.pointer q); binOp op t (.pointer p) (.pointer q) : Sem Value).run P w =
         .ok (.bool (neg ^^ (p.isNone && q.isNone))) w) → some (LOp.eqp neg x y) = some l →
     ∃ v', (execOp a.eval ⟨dst, .binOp op t x y yt, type, pos, after, guard⟩).run P w = .ok (.value v') w ∧ VRel P w0.heap.size μ v v' := by
    intro neg hrun hcc
    cases hcc
    simp only [LOp.eval] at he
    split at he
    ·rename_i p q hp hq
     split at he
     ·cases he
     ·rename_i hpq
      cases he
      have h1 := hr x (by simp [Op.operands]) _ hp
      have h2 := hr y (by simp [Op.operands]) _ hq
      have side : ∀ {p : Option Addr} {z : Value}, VRel P w0.heap.size μ (.pointer p) z → ∃ p', z = .pointer p' ∧ p'.isSome = p.isSome ∧ p'.isNone = p.isNone := by
       intro p z h
       cases h with
       | atom _ h => cases p with | none => exact ⟨none, rfl, rfl, rfl⟩ | some _ => simp [V.atom] at h
       | oldPtr _ _ => exact ⟨_, rfl, rfl, rfl⟩
       | ptr _ _ _ _ => exact ⟨_, rfl, rfl, rfl⟩
      obtain ⟨p', e1, s1, n1⟩ := side h1
      obtain ⟨q', e2, s2, n2⟩ := side h2
      refine ⟨.bool (neg ^^ (p'.isNone && q'.isNone)), ?_, by rw [n1, n2]; exact .atom _ rfl⟩
      have := hrun p' q' (by rw [s1, s2]; simpa using hpq)
      simp only [execOp, e1, e2]
      rw [Sem.run_bind, this]; rfl
    ·cases he
   have eqrun : ∀ (p q : Option Addr), (p.isSome && q.isSome) = false → (Op.equal t (.pointer p) (.pointer q)).run P w = .ok (p.isNone && q.isNone) w := by
    intro p q h
    rw [show Op.equal t (.pointer p) (.pointer q) = Op.equalIn (9999 + 1) t (.pointer p) (.pointer q) from rfl, Op.equalIn]
    simp only [Sem.run_bind, run_underlying hu, Result.andThen_ok]
    cases p <;> cases q <;> simp at h ⊢
   cases op <;> simp only at hc <;> try (cases hc; done)
   ·refine key false (fun p q h => ?_) hc
    simp [eqGuard, binOp, eqrun p q h]
   ·refine key true (fun p q h => ?_) hc
    simp [eqGuard, binOp, eqrun p q h]
  ·cases hc
   simp only [LOp.eval] at he
   split at he
   ·rename_i u1 u2 h1 h2
    split at he
    ·rename_i hf
     simp only [Bool.and_eq_true] at hf
     have e1 := (hr x (by simp [Op.operands]) _ h1).flat_eq hf.1
     have e2 := (hr y (by simp [Op.operands]) _ h2).flat_eq hf.2
     obtain ⟨hrun, hfl⟩ := pureF_run he
     exact ⟨v, by simp only [execOp, e1, e2]; exact val _ _ (hrun w), VRel.flat hfl⟩
    ·cases he
   ·cases he
  ·cases hc
 | unOp op t x =>
  cases hc
  simp only [LOp.eval] at he
  split at he
  ·rename_i u1 h1
   split at he
   ·rename_i hf
    have e1 := (hr x (by simp [Op.operands]) _ h1).flat_eq hf
    obtain ⟨hrun, hfl⟩ := pureF_run he
    exact ⟨v, by simp only [execOp, e1]; exact val _ _ (hrun w), VRel.flat hfl⟩
   ·cases he
  ·cases he
 | convert s d x =>
  simp only [copL] at hc
  have conv : some (LOp.conv s d x) = some l → ∃ v', (execOp a.eval ⟨dst, .convert s d x, type, pos, after, guard⟩).run P w = .ok (.value v') w ∧ VRel P w0.heap.size μ v v' := by
   intro hcc
   cases hcc
   simp only [LOp.eval] at he
   split at he
   ·rename_i u1 h1
    split at he
    ·rename_i hf
     have e1 := (hr x (by simp [Op.operands]) _ h1).flat_eq hf
     obtain ⟨hrun, hfl⟩ := pureF_run he
     exact ⟨v, by simp only [execOp, e1]; exact val _ _ (hrun w), VRel.flat hfl⟩
    ·cases he
   ·cases he
  split at hc
  ·rename_i e hus hud
   split at hc
   ·rename_i e' hus'
    split at hc
    ·rename_i hue
     cases hc
     simp only [LOp.eval] at he
     have tostr : ∀ (u : Value) (b : ByteArray), (Conv.bytesToString u).run P w = .ok (.string b) w → (∀ b', u ≠ .string b') → (convert s d u).run P w = .ok (.string b) w := by
      intro u b hb hn
      rw [hus'] at hus
      cases u with
      | slice aa n c =>
       cases aa <;> simp [convert, run_underlying hus', run_underlying hud, run_underlying hue, hb]
      | string b' => exact absurd rfl (hn b')
      | _ => simp [Conv.bytesToString] at hb
     split at he
     ·rename_i n c h1
      cases he
      have h := hr x (by simp [Op.operands]) _ h1
      have e1 : a.eval x = .slice none n c := h.atom_eq rfl
      refine ⟨.string .empty, ?_, .atom _ rfl⟩
      simp only [execOp, e1]
      exact val _ _ (tostr _ _ (by simp [Conv.bytesToString]) (by simp))
     ·rename_i aa n c h1
      split at he
      ·rename_i cs hcs
       split at he
       ·rename_i hall
        cases he
        have h := hr x (by simp [Op.operands]) _ h1
        obtain ⟨a', c', e1, hp⟩ := slice_inv h
        refine ⟨_, ?_, .atom _ rfl⟩
        simp only [execOp, e1]
        refine val _ _ (tostr _ _ ?_ (by simp))
        simp only [Conv.bytesToString]
        cases n with
        | zero =>
         have : cs = [] := by
          unfold cellsAt at hcs
          split at hcs
          ·split at hcs
           ·split at hcs
            ·split at hcs
             ·cases hcs; simp
             ·cases hcs
            ·cases hcs; simp
           ·cases hcs
          ·cases hcs
         subst this
         simp [loadCells, loadCellsFrom]
         rfl
        | succ n =>
         obtain ⟨a'', cs', e2, hl, hl', hcell, hrel, hone⟩ := cellsAt_sound hs (hp (by omega)) hcs
         cases e2
         have hrun := run_loadCells_list (P := P) w a' cs' hcell
         have heq : cs' = cs := by
          apply List.ext_getElem?
          intro j
          by_cases hj : j < n + 1
          ·have hj1 : j < cs.length := by omega
           have hj2 : j < cs'.length := by omega
           have hv := hrel j cs[j] cs'[j] (by simp [hj1]) (by simp [hj2])
           have hat : V.atom cs[j] = true := by
            have := List.all_eq_true.1 hall cs[j] (List.getElem_mem _)
            revert this
            cases cs[j] <;> simp [V.atom]
           rw [List.getElem?_eq_getElem hj1, List.getElem?_eq_getElem hj2, hv.atom_eq hat]
          ·rw [List.getElem?_eq_none (by omega), List.getElem?_eq_none (by omega)]
         rw [hl'] at hrun
         simp only [Sem.run_bind, hrun, Result.andThen_ok, List.forIn_toArray, heq]
         rw [bytes_run _ (fun n s => rfl) w cs .empty hall]
         simp
         all_goals (intro c _; cases c <;> rfl)
       ·cases he
      ·cases he
     ·cases he
    ·cases hc
   ·cases hc
  ·exact conv hc
  ·exact conv hc
  ·cases hc
 | index t x i =>
  cases hc
  simp only [LOp.eval] at he
  split at he
  ·rename_i u1 u2 h1 h2
   split at he
   ·rename_i hf
    simp only [Bool.and_eq_true] at hf
    have e1 := (hr x (by simp [Op.operands]) _ h1).flat_eq hf.1
    have e2 := (hr i (by simp [Op.operands]) _ h2).flat_eq hf.2
    obtain ⟨hrun, hfl⟩ := pureF_run he
    exact ⟨v, by simp only [execOp, e1, e2]; exact val _ _ (hrun w), VRel.flat hfl⟩
   ·cases he
  ·cases he
 | slice t x lo hi mx =>
  cases mx with
  | some _ => simp [copL] at hc
  | none =>
   have optrel : ∀ (y : Option Operand) (u : Option Value), evalOpt env y = some u → (∀ z, y = some z → z ∈ (Op.slice t x lo hi none).operands.toList) →
     (∀ v, u = some v → ∃ v', (y.map a.eval) = some v' ∧ VRel P w0.heap.size μ v v') ∧ (u = none → y.map a.eval = none) := by
    intro y u hy hmem
    cases y with
    | none => cases hy; exact ⟨by simp, by simp⟩
    | some z =>
     simp only [evalOpt] at hy
     cases hz : evalO env z with
     | none => simp [hz] at hy
     | some uz =>
      simp only [hz, Option.map_some, Option.some.injEq] at hy
      subst hy
      refine ⟨fun v hv => ?_, by simp⟩
      cases hv
      exact ⟨_, rfl, hr z (hmem z rfl) _ hz⟩
   have mlo : ∀ z, lo = some z → z ∈ (Op.slice t x lo hi none).operands.toList := by intro z hz; subst hz; simp [Op.operands]
   have mhi : ∀ z, hi = some z → z ∈ (Op.slice t x lo hi none).operands.toList := by intro z hz; subst hz; simp [Op.operands]
   simp only [copL] at hc
   split at hc
   ·rename_i hu
    cases hc
    simp only [LOp.eval] at he
    split at he
    ·rename_i u1 ul uh h1 hl hh
     split at he
     ·rename_i hf
      simp only [Bool.and_eq_true] at hf
      have e1 := (hr x (by simp [Op.operands]) _ h1).flat_eq hf.1.1
      obtain ⟨l1, l2⟩ := optrel lo ul hl mlo
      obtain ⟨k1, k2⟩ := optrel hi uh hh mhi
      have el : lo.map a.eval = ul := by
       cases ul with
       | none => exact l2 rfl
       | some z => obtain ⟨z', e, hz⟩ := l1 z rfl; rw [e, hz.flat_eq (by simpa using hf.1.2)]
      have eh : hi.map a.eval = uh := by
       cases uh with
       | none => exact k2 rfl
       | some z => obtain ⟨z', e, hz⟩ := k1 z rfl; rw [e, hz.flat_eq (by simpa using hf.2)]
      obtain ⟨hrun, hfl⟩ := pureF_run he
      refine ⟨v, ?_, VRel.flat hfl⟩
      simp only [execOp, e1, el, eh]
      refine val _ _ ?_
      have : ∀ X, (Instr.sliceAt t X ul uh none).run P w = (Instr.slice t X ul uh none).run P w := by
       intro X; simp only [Instr.sliceAt, Sem.run_bind, run_underlying hu, Result.andThen_ok]
      simp only [Option.map_none, this, hrun]
     ·cases he
    ·cases he
   ·rename_i e hu
    cases hi' : P.info? e with
    | none => simp [hi'] at hc
    | some inf =>
     simp only [hi', Option.map_some, Option.some.injEq] at hc
     subst hc
     simp only [LOp.eval] at he
     split at he
     ·rename_i u1 ul uh h1 hl hh
      obtain ⟨l1, l2⟩ := optrel lo ul hl mlo
      obtain ⟨k1, k2⟩ := optrel hi uh hh mhi
      obtain ⟨u', hrun, hrel⟩ := slice_sound (w0 := w0) (fun b m h => (hs.lo b m h).1) hu hi' (hr x (by simp [Op.operands]) _ h1) he l1 l2 k1 k2 w
      exact ⟨u', by simp only [execOp]; exact val _ _ hrun, hrel⟩
     ·cases he
   ·rename_i n e hu
    cases lo with
    | some _ => simp at hc
    | none =>
     cases hi with
     | some _ => simp at hc
     | none =>
      cases hi' : P.info? e with
      | none => simp [hi'] at hc
      | some inf =>
       simp only [hi', Option.map_some, Option.some.injEq] at hc
       subst hc
       simp only [LOp.eval] at he
       split at he
       ·rename_i ad h1
        split at he
        ·cases he
        ·rename_i hnb
         cases he
         have h := hr x (by simp [Op.operands]) _ h1
         rcases h.ptr_inv with ⟨_, hb⟩ | ⟨m, hm, hsp, e1⟩
         ·exact absurd hb hnb
         ·refine ⟨.slice (some ⟨m.blk, m.base + ad.off, none⟩) n n, ?_, ?_⟩
          ·simp only [execOp, e1, Option.map_none]
           refine val _ _ ?_
           simp only [Instr.sliceAt, Sem.run_bind, run_underlying hu, Result.andThen_ok, Instr.sureAddr, pure_bind, Instr.sliceBounds, Option.isSome_none, Bool.false_eq_true, if_false,
            run_size hi', Sem.run_pure, Nat.zero_mul, Nat.sub_zero, Addr.add, if_true]
           split <;> rfl
          ·obtain ⟨b, o, s⟩ := ad
           simp only at hsp hm; subst hsp
           exact .slice b o n 0 n m hm (Nat.le_refl _) (fun h => absurd rfl h)
       ·cases he
   ·cases hc
 | nilCheck x =>
  cases hc
  simp only [LOp.eval] at he
  split at he
  ·rename_i ad h1
   cases he
   have h := hr x (by simp [Op.operands]) _ h1
   rcases h.ptr_inv with ⟨e1, hb⟩ | ⟨m, hm, hsp, e1⟩
   ·exact ⟨_, by simp only [execOp, e1]; rfl, by rw [e1] at h; exact h⟩
   ·exact ⟨_, by simp only [execOp, e1]; rfl, by rw [e1] at h; exact h⟩
  ·cases he
 | fieldAddr s x f =>
  simp only [copL] at hc
  split at hc
  ·rename_i fs hu
   split at hc
   ·rename_i fd hf
    split at hc
    ·rename_i inf hi
     split at hc
     ·cases hc
     ·rename_i hsz
      cases hc
      simp only [LOp.eval] at he
      split at he
      ·rename_i ad h1
       cases he
       obtain ⟨a', e1, hrel⟩ := rel_add (hr x (by simp [Op.operands]) _ h1) fd.offset
       refine ⟨_, ?_, hrel⟩
       simp only [execOp, e1]
       refine val _ _ ?_
       simp only [Instr.fieldAt, Sem.run_bind, run_underlying hu, Result.andThen_ok, hf, Instr.sureAddr, pure_bind, fieldPlace, run_size hi, if_neg hsz, Sem.run_pure]
      ·cases he
    ·cases hc
   ·cases hc
  ·cases hc
 | indexAddr t x i =>
  simp only [copL] at hc
  split at hc
  ·rename_i e hu
   cases hi' : P.info? e with
   | none => simp [hi'] at hc
   | some inf =>
    simp only [hi', Option.map_some, Option.some.injEq] at hc
    subst hc
    simp only [LOp.eval] at he
    split at he
    ·rename_i ad n c k q h1 h2
     split at he
     ·rename_i hq
      cases he
      have h := hr x (by simp [Op.operands]) _ h1
      have e2 := (hr i (by simp [Op.operands]) _ h2).int_eq
      obtain ⟨a', c', e1, hp⟩ := slice_inv h
      obtain ⟨a'', e3, hrel⟩ := rel_add (hp (by omega)) (q.toNat * inf.size)
      cases e3
      refine ⟨_, ?_, hrel⟩
      simp only [execOp, e1, e2]
      refine val _ _ ?_
      simp only [Instr.indexAt, asIntOf, pure_bind, Sem.run_bind, run_underlying hu, Result.andThen_ok, Sem.run_pure, if_pos hq, run_size hi']
     ·cases he
    ·cases he
  ·rename_i ln e hu
   cases hi' : P.info? e with
   | none => simp [hi'] at hc
   | some inf =>
    simp only [hi', Option.map_some, Option.some.injEq] at hc
    subst hc
    simp only [LOp.eval] at he
    split at he
    ·rename_i ad k q h1 h2
     split at he
     ·rename_i hq
      cases he
      have e2 := (hr i (by simp [Op.operands]) _ h2).int_eq
      obtain ⟨a', e1, hrel⟩ := rel_add (hr x (by simp [Op.operands]) _ h1) (q.toNat * inf.size)
      refine ⟨_, ?_, hrel⟩
      simp only [execOp, e1, e2]
      refine val _ _ ?_
      simp only [Instr.indexAt, asIntOf, pure_bind, Sem.run_bind, run_underlying hu, Result.andThen_ok, Instr.sureAddr, Sem.run_pure, if_pos hq, run_size hi']
     ·cases he
    ·cases he
  ·cases hc
 | load t x =>
  simp only [copL] at hc
  cases ht : tyAgg P t with
  | none => simp [ht] at hc
  | some q =>
   obtain ⟨b, n⟩ := q
   simp only [ht, Option.map_some, Option.some.injEq] at hc
   subst hc
   simp only [LOp.eval] at he
   split at he
   ·rename_i ad h1
    split at he
    ·rename_i cs hcs
     obtain ⟨u, hrun, hrel⟩ := load_part hs (hr x (by simp [Op.operands]) _ h1) ht hcs he
     exact ⟨u, by simp only [execOp]; exact val _ _ hrun, hrel⟩
    ·cases he
   ·cases he
 | field t x f =>
  simp only [copL] at hc
  split at hc
  ·rename_i fs hu
   split at hc
   ·rename_i fd hf
    cases ht : tyAgg P fd.type with
    | none => simp [ht] at hc
    | some q =>
     obtain ⟨b, n⟩ := q
     simp only [ht, Option.map_some, Option.some.injEq] at hc
     subst hc
     simp only [LOp.eval] at he
     split at he
     ·rename_i xs h1
      by_cases hle : fd.offset + (if b then n else 1) ≤ xs.size
      ·rw [if_pos hle] at he
       obtain ⟨ys, e1, hsz, hrr, hone⟩ := (hr x (by simp [Op.operands]) _ h1).agg_inv
       obtain ⟨u, hrun, hrel⟩ := part_sound ht hsz hrr hone hle he w
       refine ⟨u, ?_, hrel⟩
       simp only [execOp, e1]
       refine val _ _ ?_
       simp only [Instr.field, Sem.run_bind, run_underlying hu, Result.andThen_ok, hf, asAgg, Sem.run_pure, hrun]
      ·rw [if_neg hle] at he; cases he
     ·cases he
   ·cases hc
  ·cases hc
 | extract x k =>
  cases hc
  simp only [LOp.eval] at he
  split at he
  ·rename_i vs h1
   obtain ⟨ys, e1, hsz, hrr⟩ := (hr x (by simp [Op.operands]) _ h1).tuple_inv
   have hk : k < ys.size := by rw [← hsz]; exact (Array.getElem?_eq_some_iff.1 he).1
   refine ⟨ys[k], ?_, hrr k _ _ he (by simp [hk])⟩
   simp only [execOp, e1]
   refine val _ _ ?_
   simp [Instr.extract, hk]
  ·cases he
 | build t parts =>
  simp only [copL] at hc
  split at hc
  ·rename_i fs hu
   split at hc
   ·rename_i tab z ht hz
    split at hc
    ·rename_i hfz
     cases hc
     simp only [LOp.eval] at he
     split at he
     ·rename_i pl hpl
      cases hfl : fillL tab z.toList pl with
      | none => simp [hfl] at he
      | some cs =>
       simp only [hfl, Option.map_some, Option.some.injEq] at he
       subst he
       obtain ⟨p1, p2⟩ := evalParts_rel (P := P) (w0 := w0) (μ := μ) (a := a) parts.toList pl (fun p hp => hr p.2 (by
         simp only [Op.operands, List.mem_map]
         exact ⟨p, hp, rfl⟩)) hpl
       obtain ⟨r', hr', hrel⟩ := fill_rel (P := P) (n0 := w0.heap.size) (μ := μ) tab pl _ z.toList z.toList p1 p2 (relC_flat (z := .agg z) hfz (by simp)) cs hfl
       refine ⟨_, ?_, hrel.agg⟩
       simp only [execOp]
       refine val _ _ (build_run hu ht hz _ ?_ w)
       simpa [Value.cells] using hr'
     ·cases he
    ·cases hc
   ·cases hc
  ·rename_i n e hu
   split at hc
   ·rename_i ie z ht hz
    split at hc
    ·rename_i hfz
     cases hc
     simp only [LOp.eval] at he
     split at he
     ·rename_i pl hpl
      cases hfl : fillL ((List.range n).map fun k => (k * ie.size, ie.size)) z.toList pl with
      | none => simp [hfl] at he
      | some cs =>
       simp only [hfl, Option.map_some, Option.some.injEq] at he
       subst he
       obtain ⟨p1, p2⟩ := evalParts_rel (P := P) (w0 := w0) (μ := μ) (a := a) parts.toList pl (fun p hp => hr p.2 (by
         simp only [Op.operands, List.mem_map]
         exact ⟨p, hp, rfl⟩)) hpl
       obtain ⟨r', hr', hrel⟩ := fill_rel (P := P) (n0 := w0.heap.size) (μ := μ) _ pl _ z.toList z.toList p1 p2 (relC_flat (z := .agg z) hfz (by simp)) cs hfl
       refine ⟨_, ?_, hrel.agg⟩
       simp only [execOp]
       refine val _ _ (build_run_arr hu ht hz _ ?_ w)
       simpa [Value.cells] using hr'
     ·cases he
    ·cases hc
   ·cases hc
  ·cases hc
 | makeInterface t x =>
  simp only [copL] at hc
  split at hc
  ·cases hc
  ·rename_i d hd hu
   cases hc
   simp only [LOp.eval] at he
   cases h1 : evalO env x with
   | none => simp [h1] at he
   | some u =>
    simp only [h1, Option.map_some, Option.some.injEq] at he
    subst he
    refine ⟨_, ?_, .iface t _ _ (hr x (by simp [Op.operands]) _ h1)⟩
    simp only [execOp]
    refine val _ _ ?_
    simp only [Instr.makeInterface, Sem.run_bind, run_underlying hu, Result.andThen_ok]
    rfl
  ·cases hc
 | typeAssert x xt t ok =>
  cases ok with
  | false => simp [copL] at hc
  | true =>
   simp only [copL] at hc
   split at hc
   ·cases hc
   ·rename_i d hd hu
    split at hc
    ·rename_i z hz
     split at hc
     ·rename_i hfz
      cases hc
      simp only [LOp.eval] at he
      have run : ∀ (X V : Value), X ≠ .agg #[] → ((X = .nilIface ∧ V = .tuple #[z, .bool false]) ∨ ∃ u y, X = .iface u y ∧ V = (if u = t then .tuple #[y, .bool true] else .tuple #[z, .bool false])) →
        (Instr.typeAssert X xt t true).run P w = .ok V w := by
       intro X V _ h
       rcases h with ⟨rfl, rfl⟩ | ⟨u, y, rfl, rfl⟩
       ·simp only [Instr.typeAssert, Sem.run_bind, run_underlying hu, Result.andThen_ok]
        cases d <;> first | exact absurd rfl (hd _) | simp [run_zero hz]
       ·simp only [Instr.typeAssert, Sem.run_bind, run_underlying hu, Result.andThen_ok]
        by_cases hut : u = t
        ·cases d <;> first | exact absurd rfl (hd _) | simp [hut]
        ·cases d <;> first | exact absurd rfl (hd _) | simp [hut, run_zero hz]
      have zrel : VRel P w0.heap.size μ (.tuple #[z, .bool false]) (.tuple #[z, .bool false]) := by
       refine .tuple _ _ rfl ?_
       intro i x y hx hy
       rw [hx] at hy; cases hy
       match i, hx with
       | 0, hx => simp at hx; subst hx; exact VRel.flat hfz
       | 1, hx => simp at hx; subst hx; exact .atom _ rfl
      split at he
      ·rename_i u y h1
       have h := hr x (by simp [Op.operands]) _ h1
       obtain ⟨y', e1, hy⟩ := h.iface_inv
       refine ⟨_, by simp only [execOp, e1]; exact val _ _ (run _ _ (by simp) (.inr ⟨u, y', rfl, rfl⟩)), ?_⟩
       split at he
       ·rename_i hut
        cases he
        rw [if_pos hut]
        refine .tuple _ _ rfl ?_
        intro i a b ha hb
        match i, ha, hb with
        | 0, ha, hb => simp at ha hb; subst ha; subst hb; exact hy
        | 1, ha, hb => simp at ha hb; subst ha; subst hb; exact .atom _ rfl
       ·rename_i hut
        cases he
        rw [if_neg hut]
        exact zrel
      ·rename_i h1
       cases he
       have e1 : a.eval x = .nilIface := (hr x (by simp [Op.operands]) _ h1).atom_eq rfl
       exact ⟨_, by simp only [execOp, e1]; exact val _ _ (run _ _ (by simp) (.inl ⟨rfl, rfl⟩)), zrel⟩
      ·cases he
     ·cases hc
    ·cases hc
   ·cases hc
 | lookup t x i ok =>
  simp only [copL] at hc
  split at hc
  ·rename_i kt et hu
   have main : ∀ (str : Bool) (z : Value) (d : TypeDesc), ((str = true ∧ d = .string) ∨ (str = false ∧ ∃ i, d = .int i)) → P.underlying kt = some d → zeroOf P et = some z → flatV z = true →
     LOp.look str z ok x i = l → ∃ v', (execOp a.eval ⟨dst, .lookup t x i ok, type, pos, after, guard⟩).run P w = .ok (.value v') w ∧ VRel P w0.heap.size μ v v' := by
    intro str z d hd hk hz hfz hl
    subst hl
    simp only [LOp.eval] at he
    split at he
    ·rename_i m key h1 h2
     have hm := hr x (by simp [Op.operands]) _ h1
     have hkey := hr i (by simp [Op.operands]) _ h2
     split at he
     ·rename_i es hes
      have hx : ∃ arr : Array MapEntry, arr.size = es.length ∧ (∀ (j : Nat) (k v : Value), es[j]? = some (k, v) → ∃ e : MapEntry, arr.toList[j]? = some e ∧ e.key = k ∧ VRel P w0.heap.size μ v e.val) ∧
        ((a.eval x = .map none ∧ arr = #[]) ∨ ∃ r clock, a.eval x = .map (some r) ∧ w.heap[r]? = some (.map arr clock)) := by
       cases m with
       | map q =>
        cases q with
        | none =>
         simp only [Option.some.injEq] at hes
         subst hes
         have e1 : a.eval x = .map none := hm.atom_eq rfl
         exact ⟨#[], rfl, by simp, .inl ⟨e1, rfl⟩⟩
        | some b =>
         simp only at hes
         split at hes
         ·rename_i es' hb
          cases hes
          obtain ⟨mm, e1, hmm⟩ := hm.map_inv
          obtain ⟨arr, clock, hh, hsz, hrel⟩ := hs.maps _ _ _ hb hmm
          refine ⟨arr, hsz, fun j k v hj => ?_, .inr ⟨_, clock, e1, hh⟩⟩
          obtain ⟨_, e, he1, he2, he3⟩ := hrel j k v hj
          exact ⟨e, by simpa using he1, he2, he3⟩
         ·cases hes
       | _ => simp at hes
      obtain ⟨arr, hsz, hrel, hrun⟩ := hx
      have hck : ∀ e X, (Instr.checkKey e 10000 kt X).run P w = .ok () w := by
       intro e X
       rw [show (10000 : Nat) = 9999 + 1 from rfl, Instr.checkKey]
       simp only [Sem.run_bind, run_underlying hk, Result.andThen_ok]
       rcases hd with ⟨_, rfl⟩ | ⟨_, j, rfl⟩ <;> rfl
      have keyflat : ∀ r, findD str key es 0 = some r → (∃ e, e ∈ es) → a.eval i = key := by
       intro r hr' ⟨e, hmem⟩
       have : V.atom key = true := by
        cases es with
        | nil => simp at hmem
        | cons e0 es =>
         simp only [findD] at hr'
         cases hc : keyCmp str key e0.1 with
         | none => simp [hc] at hr'
         | some b => cases key <;> first | rfl | simp [keyCmp] at hc
       exact hkey.atom_eq this
      cases hfd : findD str key es 0 with
      | none => simp [hfd] at he
      | some r =>
       have hnow : (r = none ∧ (Instr.findKey kt (a.eval i) arr.toList).run P w = .ok none w) ∨
         ∃ j u u', r = some (j, u) ∧ (Instr.findKey kt (a.eval i) arr.toList).run P w = .ok (some (j, u')) w ∧ VRel P w0.heap.size μ u u' := by
        by_cases hes0 : ∃ e, e ∈ es
        ·rw [keyflat r hfd hes0]
         have h := findD_now (P := P) (w0 := w0) (μ := μ) hd es arr.toList 0 (by simpa using hsz) hrel r hfd
         cases r with
         | none =>
          simp only at h
          exact .inl ⟨rfl, by simp [Instr.findKey, run_underlying hk, h]⟩
         | some q =>
          obtain ⟨j, u⟩ := q
          obtain ⟨u', h1, h2, _⟩ := h
          exact .inr ⟨j, u, u', rfl, by simp [Instr.findKey, run_underlying hk, h1], h2⟩
        ·have hnil : es = [] := by
          cases es with
          | nil => rfl
          | cons e0 _ => exact absurd ⟨e0, by simp⟩ hes0
         rw [hnil] at hfd hsz
         simp only [findD, Option.some.injEq] at hfd
         have : arr = #[] := by simpa using hsz
         rw [this]
         exact .inl ⟨hfd.symm, by simp [Instr.findKey, run_underlying hk, Instr.findNow]⟩
       have pair : ∀ {A B : Value} (c : Bool), VRel P w0.heap.size μ A B → VRel P w0.heap.size μ (.tuple #[A, .bool c]) (.tuple #[B, .bool c]) := by
        intro A B c hAB
        refine .tuple _ _ rfl ?_
        intro i a b ha hb
        match i, ha, hb with
        | 0, ha, hb => simp at ha hb; subst ha; subst hb; exact hAB
        | 1, ha, hb => simp at ha hb; subst ha; subst hb; exact .atom _ rfl
       have fin : ∀ (res : Option (Nat × Value)) (R : Value), (Instr.findKey kt (a.eval i) arr.toList).run P w = .ok res w →
         R = (match res with | some (_, u) => if ok then .tuple #[u, .bool true] else u | none => if ok then .tuple #[z, .bool false] else z) →
         (Instr.lookup t (a.eval x) (a.eval i) ok).run P w = .ok R w := by
        intro res R hres hR
        rcases hrun with ⟨e1, rfl⟩ | ⟨rr, clock, e1, hh⟩
        ·rw [e1]
         simp only [Instr.lookup, Sem.run_bind, run_underlying hu, Result.andThen_ok, Sem.run_pure, hck]
         rw [hres]
         subst hR
         cases res with
         | none => simp [run_zero hz]
         | some q => rfl
        ·rw [e1]
         have hget : (getObj rr).run P w = .ok (.map arr clock) w := by simp [getObj, Sem.run, hh]
         simp only [Instr.lookup, Sem.run_bind, run_underlying hu, Result.andThen_ok, Sem.run_pure, hget, hck]
         rw [hres]
         subst hR
         cases res with
         | none => simp [run_zero hz]
         | some q => rfl
       rcases hnow with ⟨rfl, hres⟩ | ⟨j, u, u', rfl, hres, hu'⟩
       ·simp only [hfd, Option.some.injEq] at he
        refine ⟨if ok then .tuple #[z, .bool false] else z, ?_, ?_⟩
        ·simp only [execOp]
         exact val _ _ (fin _ _ hres rfl)
        ·rw [← he]
         cases ok
         ·exact VRel.flat hfz
         ·exact pair false (VRel.flat hfz)
       ·simp only [hfd, Option.some.injEq] at he
        refine ⟨if ok then .tuple #[u', .bool true] else u', ?_, ?_⟩
        ·simp only [execOp]
         exact val _ _ (fin _ _ hres rfl)
        ·rw [← he]
         cases ok
         ·exact hu'
         ·exact pair true hu'
     ·cases he
    ·cases he
   split at hc
   ·rename_i z hk hz
    split at hc
    ·rename_i hfz
     exact main true z _ (.inl ⟨rfl, rfl⟩) hk hz hfz (Option.some.inj hc)
    ·cases hc
   ·rename_i j z hk hz
    split at hc
    ·rename_i hfz
     exact main false z _ (.inr ⟨rfl, j, rfl⟩) hk hz hfz (Option.some.inj hc)
    ·cases hc
   ·cases hc
  ·cases hc
 | call c =>
  simp only [copL] at hc
  obtain ⟨callee, args, tys⟩ := c
  simp only at hc
  split at hc
  ·rename_i _ b
   cases b <;> simp only [copB] at hc <;> try (cases hc; done)
   ·split at hc
    ·rename_i x t hx ht
     have ea : args = #[x] := by apply Array.ext'; simpa using hx
     have et : tys = #[t] := by apply Array.ext'; simpa using ht
     subst ea; subst et
     split at hc
     ·rename_i e hu
      cases hc
      simp only [LOp.eval] at he
      split at he
      ·rename_i aa n c h1
       cases he
       have h := hr x (by simp [Op.operands, Call.operands]) _ h1
       have e1 : ∃ a' c', a.eval x = .slice a' n c' := by
        cases aa with
        | none => exact ⟨none, c, h.atom_eq rfl⟩
        | some aa => obtain ⟨a', c', e1, _⟩ := slice_inv h; exact ⟨some a', c', e1⟩
       obtain ⟨a', c', e1⟩ := e1
       refine ⟨_, ?_, .atom _ rfl⟩
       simp [execOp, resolve, invoke, builtin, Builtin.len_, e1, run_underlying hu, goInt]
      ·cases he
     ·rename_i hu
      cases hc
      simp only [LOp.eval] at he
      split at he
      ·rename_i sb h1
       cases he
       have e1 : a.eval x = .string sb := (hr x (by simp [Op.operands, Call.operands]) _ h1).atom_eq rfl
       refine ⟨_, ?_, .atom _ rfl⟩
       simp [execOp, resolve, invoke, builtin, Builtin.len_, e1, run_underlying hu, goInt]
      ·cases he
     ·cases hc
    ·cases hc
   ·split at hc
    ·rename_i x y hx
     have ea : args = #[x, y] := by apply Array.ext'; simpa using hx
     subst ea
     cases hc
     simp only [LOp.eval] at he
     split at he
     ·rename_i k p k' q h1 h2
      cases he
      have e1 := (hr x (by simp [Op.operands, Call.operands]) _ h1).int_eq
      have e2 := (hr y (by simp [Op.operands, Call.operands]) _ h2).int_eq
      refine ⟨_, ?_, .atom _ rfl⟩
      simp [execOp, resolve, invoke, builtin, Builtin.min_, Builtin.min2, e1, e2]
     ·cases he
    ·cases hc
  ·cases hc
 | makeFunc fn first caps =>
  cases fn with
  | func g =>
   simp only [copL] at hc
   split at hc
   ·rename_i hfi
    cases hc
    simp only [LOp.eval] at he
    cases h1 : evalArgs env caps.toList with
    | none => simp [h1] at he
    | some vs =>
     simp only [h1, Option.map_some, Option.some.injEq] at he
     subst he
     have hfe : first = #[] := by simpa using hfi
     subst hfe
     obtain ⟨p1, p2⟩ := evalArgs_relV (P := P) (w0 := w0) (μ := μ) (a := a) caps.toList vs (fun x hx => hr x (by simp [Op.operands]; simpa using hx)) h1
     refine ⟨.func (.func g) #[] (caps.map a.eval), ?_, .func _ _ _ (by simpa using p1) ?_⟩
     ·simp [execOp, Instr.makeFunc]
     ·intro i x y hx hy
      exact p2 i x y (by simpa using hx) (by simpa using hy)
   ·cases hc
  | _ => simp [copL] at hc
 | _ => simp [copL] at hc

end
end Go.Proofs.YtnphhelbianjpaaGreatDoor.V
