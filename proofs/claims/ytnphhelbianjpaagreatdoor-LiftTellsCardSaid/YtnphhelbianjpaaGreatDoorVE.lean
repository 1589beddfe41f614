/-
  The semantics of trees T: relations and light operations.
-/
import Derived.Test.YtnphhelbianjpaaGreatDoorVD
set_option linter.all false
set_option linter.unusedSimpArgs false
set_option linter.unusedVariables false
set_option linter.unnecessarySimpa false
namespace Go.Proofs.YtnphhelbianjpaaGreatDoor.V
open Go Go.RowKit

inductive TV where
 | v (v : Value)
 | agg (cs : List TV)
 | tup (vs : List TV)
 | lst (sz : Nat) (xs : List (List TV))
 | fp (cs : List TV) (off : Nat)
 | fm (es : List (Value × TV))
 | ifc (ty : TypeId) (x : TV)
 | p (k off : Nat)
 | e (k sz i off : Nat)
 | s (k sz o n : Nat) (c : Bool)
 | m (k : Nat)
 | fn (g : FuncId) (cs : List TV)

inductive TObj where
 | cells (cs : List TV) (ty : TypeId)
 | rows (sz : Nat) (xs : List (List TV)) (ty : TypeId)
 | ptrs (ks : List Nat) (ty : TypeId)
 | map (es : List (Value × TV))
 | iter (s : ByteArray) (pos : Nat)

def look {α : Type} (t : Nat) : List (Nat × α) → Option α
 | [] => none
 | (d, x) :: r => bif Nat.beq t d then some x else look t r

def putL {α : Type} (t : Nat) (y : α) : List (Nat × α) → List (Nat × α)
 | [] => []
 | (d, x) :: r => bif Nat.beq t d then (d, y) :: r else (d, x) :: putL t y r

def delL {α : Type} (t : Nat) : List (Nat × α) → List (Nat × α)
 | [] => []
 | (d, x) :: r => bif Nat.beq t d then delL t r else (d, x) :: delL t r

theorem look_cons {α : Type} (t d : Nat) (x : α) (r : List (Nat × α)) : look t ((d, x) :: r) = if t = d then some x else look t r := by
 by_cases h : t = d
 ·subst h; simp [look]
 ·have : Nat.beq t d = false := by rw [← Bool.not_eq_true, Nat.beq_eq]; exact h
  simp [look, this, h]
theorem look_put {α : Type} (t k : Nat) (y : α) : ∀ (l : List (Nat × α)), look t (putL k y l) = if t = k then (look k l).map fun _ => y else look t l
 | [] => by simp [look, putL]
 | (d, x) :: r => by
  by_cases h : k = d
  ·subst h
   simp only [putL, Nat.beq_refl, cond_true, look_cons]
   by_cases h' : t = k <;> simp [h']
  ·have hb : Nat.beq k d = false := by rw [← Bool.not_eq_true, Nat.beq_eq]; exact h
   simp only [putL, hb, cond_false, look_cons, look_put t k y r]
   by_cases h' : t = k
   ·subst h'; simp [h]
   ·simp [h']
theorem look_del {α : Type} (t k : Nat) : ∀ (l : List (Nat × α)), look t (delL k l) = if t = k then none else look t l
 | [] => by simp [look, delL]
 | (d, x) :: r => by
  by_cases h : k = d
  ·subst h
   simp only [delL, Nat.beq_refl, cond_true, look_cons, look_del t k r]
   by_cases h' : t = k <;> simp [h']
  ·have hb : Nat.beq k d = false := by rw [← Bool.not_eq_true, Nat.beq_eq]; exact h
   simp only [delL, hb, cond_false, look_cons, look_del t k r]
   by_cases h' : t = k
   ·subst h'; simp [h]
   ·simp [h']

structure TS where
 objs : List (Nat × TObj)
 next : Nat

namespace TS
def get (σ : TS) (k : Nat) : Option TObj := look k σ.objs
def alloc (σ : TS) (o : TObj) : TS := ⟨(σ.next, o) :: σ.objs, σ.next + 1⟩
def set (σ : TS) (k : Nat) (o : TObj) : TS := ⟨putL k o σ.objs, σ.next⟩
def del (σ : TS) (k : Nat) : TS := ⟨delL k σ.objs, σ.next⟩
theorem get_alloc (σ : TS) (o : TObj) (k : Nat) : (σ.alloc o).get k = if k = σ.next then some o else σ.get k := look_cons ..
theorem get_set (σ : TS) (o : TObj) (k j : Nat) : (σ.set k o).get j = if j = k then (σ.get k).map fun _ => o else σ.get j := look_put ..
theorem get_del (σ : TS) (k j : Nat) : (σ.del k).get j = if j = k then none else σ.get j := look_del ..
end TS

abbrev TEnv := List (Nat × TV)
abbrev Nu := Nat → Option (Option Nat)

section
variable (w0 : World)

def Froz (Φ : Nat → Prop) (b : Nat) : Prop := b < w0.heap.size ∨ Φ b

inductive FRel (st : St) (Φ : Nat → Prop) : TV → Value → Prop
 | v (v : Value) : atom v = true → FRel st Φ (.v v) v
 | agg (cs : List TV) (vs : Array Value) : cs.length = vs.size → (∀ (i : Nat) (x : TV) (y : Value), cs[i]? = some x → vs[i]? = some y → FRel st Φ x y) → FRel st Φ (.agg cs) (.agg vs)
 | tup (cs : List TV) (vs : Array Value) : cs.length = vs.size → (∀ (i : Nat) (x : TV) (y : Value), cs[i]? = some x → vs[i]? = some y → FRel st Φ x y) → FRel st Φ (.tup cs) (.tuple vs)
 | lst (sz : Nat) (xs : List (List TV)) (a : Option Addr) (n c : Nat) (vs : List Value) : n = xs.length → n < 9223372036854775808 → (∀ a0, a = some a0 → a0.block < w0.heap.size → n ≤ c) → (a = none → n ≤ c) →
   (∀ a0, a = some a0 → xs ≠ [] → a0.spot = none) → (∀ x ∈ xs, x.length = sz) →
   (xs ≠ [] → ∃ b o, a = some ⟨b, o, none⟩ ∧ Froz w0 Φ b ∧ cellsAt w0 st ⟨b, o, none⟩ (n * sz) = some vs) →
   (∀ (j : Nat) (y : TV) (z : Value), xs.flatten[j]? = some y → vs[j]? = some z → FRel st Φ y z) → FRel st Φ (.lst sz xs) (.slice a n c)
 | fp (cs : List TV) (off b o : Nat) (vs : List Value) : Froz w0 Φ b → cellsAt w0 st ⟨b, o, none⟩ cs.length = some vs →
   (∀ (j : Nat) (y : TV) (z : Value), cs[j]? = some y → vs[j]? = some z → FRel st Φ y z) → FRel st Φ (.fp cs off) (.pointer (some ⟨b, o + off, none⟩))
 | fm (es : List (Value × TV)) (b : Nat) (vs : List (Value × Value)) : Φ b → st.blk b = some (.map vs) → es.length = vs.length → (∀ (i : Nat) (k : Value) (x : TV), es[i]? = some (k, x) → ∃ k' y, vs[i]? = some (k', y) ∧ k' = k) →
   (∀ (i : Nat) (k k' : Value) (x : TV) (y : Value), es[i]? = some (k, x) → vs[i]? = some (k', y) → FRel st Φ x y) → FRel st Φ (.fm es) (.map (some b))
 | ifc (ty : TypeId) (x : TV) (v : Value) : FRel st Φ x v → FRel st Φ (.ifc ty x) (.iface ty v)
 | fn (g : FuncId) (cs : List TV) (vs : Array Value) : cs.length = vs.size → (∀ (i : Nat) (x : TV) (y : Value), cs[i]? = some x → vs[i]? = some y → FRel st Φ x y) → FRel st Φ (.fn g cs) (.func (.func g) #[] vs)

inductive TRel (st : St) (Φ : Nat → Prop) (ν : Nu) : TV → Value → Prop
 | f (x : TV) (v : Value) : FRel w0 st Φ x v → TRel st Φ ν x v
 | agg (cs : List TV) (vs : Array Value) : cs.length = vs.size → (∀ (i : Nat) (x : TV) (y : Value), cs[i]? = some x → vs[i]? = some y → TRel st Φ ν x y) → TRel st Φ ν (.agg cs) (.agg vs)
 | tup (cs : List TV) (vs : Array Value) : cs.length = vs.size → (∀ (i : Nat) (x : TV) (y : Value), cs[i]? = some x → vs[i]? = some y → TRel st Φ ν x y) → TRel st Φ ν (.tup cs) (.tuple vs)
 | p (k off b : Nat) : ν k = some (some b) → TRel st Φ ν (.p k off) (.pointer (some ⟨b, off, none⟩))
 | e (k sz i off b : Nat) : ν k = some (some b) → TRel st Φ ν (.e k sz i off) (.pointer (some ⟨b, i * sz + off, none⟩))
 | s (k sz o n : Nat) (c : Bool) (b : Nat) : ν k = some (some b) → TRel st Φ ν (.s k sz o n c) (.slice (some ⟨b, o * sz, none⟩) n (bif c then sz else 0))
 | sn (k sz : Nat) (c : Bool) : ν k = some none → TRel st Φ ν (.s k sz 0 0 c) (.slice none 0 0)
 | m (k b : Nat) : ν k = some (some b) → TRel st Φ ν (.m k) (.map (some b))

structure RelL (st : St) (Φ : Nat → Prop) (ν : Nu) (cs : List TV) (vs : List Value) : Prop where
 len : cs.length = vs.length
 rel : ∀ (i : Nat) (x : TV) (y : Value), cs[i]? = some x → vs[i]? = some y → TRel w0 st Φ ν x y

structure RelF (st : St) (Φ : Nat → Prop) (cs : List TV) (vs : List Value) : Prop where
 len : cs.length = vs.length
 rel : ∀ (i : Nat) (x : TV) (y : Value), cs[i]? = some x → vs[i]? = some y → FRel w0 st Φ x y

def CRel (st : St) (Φ : Nat → Prop) (ν : Nu) : TObj → Blk → Prop
 | .cells cs ty, .cells vs ty' => ty' = ty ∧ RelL w0 st Φ ν cs vs
 | .rows sz xs ty, .cells vs ty' => ty' = ty ∧ (∀ x ∈ xs, x.length = sz) ∧ xs.length < 9223372036854775808 ∧ RelF w0 st Φ xs.flatten vs
 | .ptrs ks ty, .cells vs ty' => ty' = ty ∧ RelL w0 st Φ ν (ks.map fun k => .p k 0) vs
 | .map es, .map vs => es.length = vs.length ∧ ∀ (i : Nat) (k : Value) (x : TV), es[i]? = some (k, x) → ∃ y, vs[i]? = some (k, y) ∧ TRel w0 st Φ ν x y
 | .iter s p, .iter s' p' => s' = s ∧ p' = p
 | _, _ => False

def ObjAt (st : St) (Φ : Nat → Prop) (ν : Nu) (o : TObj) : Option (Option Nat) → Prop
 | some (some b) => ∃ bk, st.blk b = some bk ∧ CRel w0 st Φ ν o bk
 | some none => ∃ sz ty, o = .rows sz [] ty
 | none => False

structure TSim (st : St) (Φ : Nat → Prop) (ν : Nu) (σ : TS) : Prop where
 ok : Ok w0 st
 inj : ∀ k k' b, (σ.get k).isSome = true → (σ.get k').isSome = true → ν k = some (some b) → ν k' = some (some b) → k = k'
 own : ∀ k b, ν k = some (some b) → w0.heap.size ≤ b ∧ b < st.next
 npf : ∀ k b, (σ.get k).isSome = true → ν k = some (some b) → ¬ Φ b
 fro : ∀ b, Φ b → b < st.next
 dom : ∀ k, σ.next ≤ k → ν k = none
 obj : ∀ k o, σ.get k = some o → ObjAt w0 st Φ ν o (ν k)
end

variable {w0 : World}

theorem cellsAt_block {st st' : St} {a : Addr} {n : Nat} (h : w0.heap.size ≤ a.block → st'.blk a.block = st.blk a.block) : cellsAt w0 st' a n = cellsAt w0 st a n := by
 unfold cellsAt cellsOf
 by_cases hb : a.block < w0.heap.size
 ·simp only [if_pos hb]
 ·simp only [if_neg hb, h (by omega)]

theorem FRel.stable {st st' : St} {Φ Φ' : Nat → Prop} (hf : ∀ b, Φ b → Φ' b) (hs : ∀ b, Φ b → st'.blk b = st.blk b) {x : TV} {v : Value} (h : FRel w0 st Φ x v) : FRel w0 st' Φ' x v := by
 induction h with
 | v v h => exact .v v h
 | agg cs vs h _ ih => exact .agg cs vs h ih
 | tup cs vs h _ ih => exact .tup cs vs h ih
 | lst sz xs a n c vs h1 h2 h3 h4 h5 h6 h7 _ ih =>
  refine .lst sz xs a n c vs h1 h2 h3 h4 h5 h6 (fun hne => ?_) ih
  obtain ⟨b, o, e1, e2, e3⟩ := h7 hne
  refine ⟨b, o, e1, e2.imp id (hf _), ?_⟩
  rw [← e3]
  refine cellsAt_block fun hb => ?_
  rcases e2 with h | h
  ·simp only at hb; omega
  ·exact hs _ h
 | fp cs off b o vs h1 h2 _ ih =>
  refine .fp cs off b o vs (h1.imp id (hf _)) ?_ ih
  rw [← h2]
  refine cellsAt_block fun hb => ?_
  rcases h1 with h | h
  ·simp only at hb; omega
  ·exact hs _ h
 | fm es b vs h1 h2 h3 h4 _ ih => exact .fm es b vs (hf _ h1) (by rw [hs _ h1]; exact h2) h3 h4 ih
 | ifc ty x v _ ih => exact .ifc ty x v ih
 | fn g cs vs h _ ih => exact .fn g cs vs h ih

theorem TRel.stable {st st' : St} {Φ Φ' : Nat → Prop} {ν ν' : Nu} (hf : ∀ b, Φ b → Φ' b) (hs : ∀ b, Φ b → st'.blk b = st.blk b) (hn : ∀ k r, ν k = some r → ν' k = some r) {x : TV} {v : Value}
  (h : TRel w0 st Φ ν x v) : TRel w0 st' Φ' ν' x v := by
 induction h with
 | f x v h => exact .f x v (h.stable hf hs)
 | agg cs vs h _ ih => exact .agg cs vs h ih
 | tup cs vs h _ ih => exact .tup cs vs h ih
 | p k off b h => exact .p k off b (hn _ _ h)
 | e k sz i off b h => exact .e k sz i off b (hn _ _ h)
 | s k sz o n c b h => exact .s k sz o n c b (hn _ _ h)
 | sn k sz c h => exact .sn k sz c (hn _ _ h)
 | m k b h => exact .m k b (hn _ _ h)

theorem RelL.stable {st st' : St} {Φ Φ' : Nat → Prop} {ν ν' : Nu} (hf : ∀ b, Φ b → Φ' b) (hs : ∀ b, Φ b → st'.blk b = st.blk b) (hn : ∀ k r, ν k = some r → ν' k = some r) {x : List TV} {v : List Value}
  (h : RelL w0 st Φ ν x v) : RelL w0 st' Φ' ν' x v := ⟨h.len, fun i x y hx hy => (h.rel i x y hx hy).stable hf hs hn⟩
theorem RelF.stable {st st' : St} {Φ Φ' : Nat → Prop} (hf : ∀ b, Φ b → Φ' b) (hs : ∀ b, Φ b → st'.blk b = st.blk b) {x : List TV} {v : List Value}
  (h : RelF w0 st Φ x v) : RelF w0 st' Φ' x v := ⟨h.len, fun i x y hx hy => (h.rel i x y hx hy).stable hf hs⟩

theorem CRel.stable {st st' : St} {Φ Φ' : Nat → Prop} {ν ν' : Nu} (hf : ∀ b, Φ b → Φ' b) (hs : ∀ b, Φ b → st'.blk b = st.blk b) (hn : ∀ k r, ν k = some r → ν' k = some r) {o : TObj} {bk : Blk}
  (h : CRel w0 st Φ ν o bk) : CRel w0 st' Φ' ν' o bk := by
 cases o with
 | cells cs ty => cases bk with
  | cells vs ty' => exact ⟨h.1, h.2.stable hf hs hn⟩
  | _ => exact h.elim
 | rows sz xs ty => cases bk with
  | cells vs ty' => exact ⟨h.1, h.2.1, h.2.2.1, h.2.2.2.stable hf hs⟩
  | _ => exact h.elim
 | ptrs ks ty => cases bk with
  | cells vs ty' => exact ⟨h.1, h.2.stable hf hs hn⟩
  | _ => exact h.elim
 | map es => cases bk with
  | map vs => exact ⟨h.1, fun i k x hx => let ⟨y, h1, h2⟩ := h.2 i k x hx; ⟨y, h1, h2.stable hf hs hn⟩⟩
  | _ => exact h.elim
 | iter s p => cases bk with
  | iter s' p' => exact h
  | _ => exact h.elim

theorem TSim.lt {st : St} {Φ : Nat → Prop} {ν : Nu} {σ : TS} (h : TSim w0 st Φ ν σ) {k b : Nat} (hk : ν k = some (some b)) : w0.heap.size ≤ b ∧ b < st.next := h.own k b hk

theorem TSim.has {st : St} {Φ : Nat → Prop} {ν : Nu} {σ : TS} (h : TSim w0 st Φ ν σ) {k : Nat} {o : TObj} (hk : σ.get k = some o) :
  (ν k = some none ∧ ∃ sz ty, o = .rows sz [] ty) ∨ ∃ b bk, ν k = some (some b) ∧ st.blk b = some bk ∧ CRel w0 st Φ ν o bk := by
 have := h.obj k o hk
 revert this
 cases hn : ν k with
 | none => exact fun h => h.elim
 | some r => cases r with
  | none => exact fun h => .inl ⟨rfl, h⟩
  | some b => exact fun ⟨bk, h1, h2⟩ => .inr ⟨b, bk, rfl, h1, h2⟩

def upN (ν : Nu) (k : Nat) (r : Option Nat) : Nu := fun i => if i = k then some r else ν i
theorem upN_ext {ν : Nu} {k : Nat} (h : ν k = none) (r : Option Nat) : ∀ i q, ν i = some q → upN ν k r i = some q := by
 intro i q hi
 unfold upN
 split
 ·subst i; rw [h] at hi; cases hi
 ·exact hi
theorem upN_self (ν : Nu) (k : Nat) (r : Option Nat) : upN ν k r k = some r := by simp [upN]
theorem upN_ne (ν : Nu) {k i : Nat} (r : Option Nat) (h : i ≠ k) : upN ν k r i = ν i := by simp [upN, h]

theorem TSim.alloc {st : St} {Φ : Nat → Prop} {ν : Nu} {σ : TS} (h : TSim w0 st Φ ν σ) {o : TObj} {bk : Blk} (hc : CRel w0 st Φ ν o bk) :
  TSim w0 (st.alloc bk) Φ (upN ν σ.next (some st.next)) (σ.alloc o) := by
 have hd := h.dom σ.next (Nat.le_refl _)
 have hx := upN_ext hd (some st.next)
 have hs : ∀ b, Φ b → (st.alloc bk).blk b = st.blk b := fun b hb => alloc_ne _ _ (Nat.ne_of_lt (h.fro b hb))
 refine ⟨h.ok.alloc _, ?_, ?_, ?_, ?_, ?_, ?_⟩
 ·intro k k' b h1 h2 h3 h4
  rw [TS.get_alloc] at h1 h2
  by_cases e : k = σ.next
  ·subst e
   rw [upN_self] at h3; cases h3
   by_cases e' : k' = σ.next
   ·exact e'.symm
   ·rw [upN_ne _ _ e'] at h4
    have := (h.lt h4).2; omega
  ·rw [upN_ne _ _ e] at h3
   by_cases e' : k' = σ.next
   ·subst e'
    rw [upN_self] at h4; cases h4
    have := (h.lt h3).2; omega
   ·rw [upN_ne _ _ e'] at h4
    rw [if_neg e] at h1
    rw [if_neg e'] at h2
    exact h.inj _ _ _ h1 h2 h3 h4
 ·intro k b hk
  by_cases e : k = σ.next
  ·subst e
   rw [upN_self] at hk; cases hk
   exact ⟨h.ok.next, Nat.lt_succ_self _⟩
  ·rw [upN_ne _ _ e] at hk
   obtain ⟨h1, h2⟩ := h.own k b hk
   exact ⟨h1, Nat.lt_succ_of_lt h2⟩
 ·intro k b hl hk
  rw [TS.get_alloc] at hl
  by_cases e : k = σ.next
  ·subst e
   rw [upN_self] at hk; cases hk
   exact fun hp => Nat.lt_irrefl _ (h.fro _ hp)
  ·rw [upN_ne _ _ e] at hk
   rw [if_neg e] at hl
   exact h.npf k b hl hk
 ·exact fun b hb => Nat.lt_succ_of_lt (h.fro b hb)
 ·intro k hk
  have : σ.next + 1 ≤ k := hk
  rw [upN_ne _ _ (by omega)]
  exact h.dom k (by omega)
 ·intro k o' hk
  rw [TS.get_alloc] at hk
  by_cases e : k = σ.next
  ·subst e
   rw [if_pos rfl] at hk; cases hk
   rw [upN_self]
   exact ⟨bk, alloc_eq _ _, hc.stable (fun _ h => h) hs hx⟩
  ·rw [if_neg e] at hk
   rw [upN_ne _ _ e]
   rcases h.has hk with ⟨h1, h2⟩ | ⟨b, bk', h1, h2, h3⟩
   ·rw [h1]; exact h2
   ·rw [h1]
    exact ⟨bk', by rw [alloc_ne _ _ (Nat.ne_of_lt (h.lt h1).2)]; exact h2, h3.stable (fun _ h => h) hs hx⟩

theorem TSim.set {st : St} {Φ : Nat → Prop} {ν : Nu} {σ : TS} (h : TSim w0 st Φ ν σ) {k b : Nat} {o o' : TObj} {bk : Blk} (hk : σ.get k = some o) (hb : ν k = some (some b)) (hc : CRel w0 st Φ ν o' bk) :
  TSim w0 (st.set b bk) Φ ν (σ.set k o') := by
 have ho := h.npf k b (by rw [hk]; rfl) hb
 have hs : ∀ c, Φ c → (st.set b bk).blk c = st.blk c := fun c hc => set_ne _ _ (fun e => ho (e ▸ hc))
 obtain ⟨bk0, hbk⟩ : ∃ bk0, st.blk b = some bk0 := by
  rcases h.has hk with ⟨h1, _⟩ | ⟨b', bk', h1, h2, _⟩
  ·rw [hb] at h1; cases h1
  ·rw [hb] at h1; cases h1; exact ⟨_, h2⟩
 have hg : ∀ i, ((σ.set k o').get i).isSome = (σ.get i).isSome := by
  intro i
  rw [TS.get_set]
  split
  ·subst i; cases σ.get k <;> rfl
  ·rfl
 refine ⟨h.ok.set hbk _, ?_, h.own, ?_, h.fro, h.dom, ?_⟩
 ·intro i j c h1 h2
  rw [hg] at h1 h2
  exact h.inj i j c h1 h2
 ·intro i c h1
  rw [hg] at h1
  exact h.npf i c h1
 ·intro i oi hi
  rw [TS.get_set] at hi
  by_cases e : i = k
  ·subst e
   rw [if_pos rfl, hk] at hi; cases hi
   rw [hb]
   exact ⟨bk, set_eq _ _ _, hc.stable (fun _ h => h) hs fun _ _ h => h⟩
  ·rw [if_neg e] at hi
   rcases h.has hi with ⟨h1, h2⟩ | ⟨c, bk', h1, h2, h3⟩
   ·rw [h1]; exact h2
   ·rw [h1]
    refine ⟨bk', ?_, h3.stable (fun _ h => h) hs fun _ _ h => h⟩
    rw [set_ne _ _ (fun e' => ?_)]; exact h2
    subst e'
    exact e (h.inj i k c (by rw [hi]; rfl) (by rw [hk]; rfl) h1 hb)

theorem TSim.drop {st : St} {Φ : Nat → Prop} {ν : Nu} {σ : TS} (h : TSim w0 st Φ ν σ) (k : Nat) : TSim w0 st Φ ν (σ.del k) := by
 refine ⟨h.ok, ?_, h.own, ?_, h.fro, h.dom, ?_⟩
 ·intro i j c h1 h2
  rw [TS.get_del] at h1 h2
  split at h1
  ·cases h1
  ·split at h2
   ·cases h2
   ·exact h.inj i j c h1 h2
 ·intro i c h1
  rw [TS.get_del] at h1
  split at h1
  ·cases h1
  ·exact h.npf i c h1
 ·intro i o hi
  rw [TS.get_del] at hi
  split at hi
  ·cases hi
  ·exact h.obj i o hi

theorem TSim.kill {st : St} {Φ : Nat → Prop} {ν : Nu} {σ : TS} (h : TSim w0 st Φ ν σ) {b : Nat} (hb : ¬ Φ b) (hl : ∀ k, (σ.get k).isSome = true → ν k ≠ some (some b)) : TSim w0 (st.kill b) Φ ν σ := by
 have hs : ∀ c, Φ c → (st.kill b).blk c = st.blk c := fun c hc => kill_ne _ (fun e => hb (e ▸ hc))
 refine ⟨⟨h.ok.next, ?_, ?_⟩, h.inj, h.own, h.npf, h.fro, h.dom, ?_⟩
 ·intro c hc
  simp only [St.kill]
  split
  ·rfl
  ·exact h.ok.hi c hc
 ·intro c hc
  simp only [St.kill]
  split
  ·rfl
  ·exact h.ok.fresh c hc
 ·intro i o hi
  rcases h.has hi with ⟨h1, h2⟩ | ⟨c, bk', h1, h2, h3⟩
  ·rw [h1]; exact h2
  ·rw [h1]
   refine ⟨bk', ?_, h3.stable (fun _ h => h) hs fun _ _ h => h⟩
   rw [kill_ne _ (fun e => ?_)]; exact h2
   subst e
   exact hl i (by rw [hi]; rfl) h1

theorem TSim.le {st st' : St} {Φ : Nat → Prop} {ν : Nu} {σ : TS} (h : TSim w0 st Φ ν σ) (ho : Ok w0 st') (hl : st.le st') : TSim w0 st' (fun b => Φ b ∨ (st.next ≤ b ∧ b < st'.next)) ν σ := by
 have hs : ∀ c, Φ c → st'.blk c = st.blk c := fun c hc => hl.blk c (h.fro c hc)
 refine ⟨ho, h.inj, ?_, ?_, ?_, h.dom, ?_⟩
 ·intro k b hk
  obtain ⟨h1, h2⟩ := h.own k b hk
  exact ⟨h1, Nat.lt_of_lt_of_le h2 hl.next⟩
 ·intro k b hg hk
  have := h.own k b hk
  rintro (h' | h')
  ·exact h.npf k b hg hk h'
  ·omega
 ·rintro b (h1 | h1)
  ·exact Nat.lt_of_lt_of_le (h.fro b h1) hl.next
  ·exact h1.2
 ·intro i o hi
  rcases h.has hi with ⟨h1, h2⟩ | ⟨c, bk', h1, h2, h3⟩
  ·rw [h1]; exact h2
  ·rw [h1]
   exact ⟨bk', by rw [hl.blk c (h.lt h1).2]; exact h2, h3.stable (fun _ h => .inl h) hs fun _ _ h => h⟩

theorem TSim.freeze {st : St} {Φ : Nat → Prop} {ν : Nu} {σ : TS} (h : TSim w0 st Φ ν σ) {k b : Nat} (hk : (σ.get k).isSome = true) (hb : ν k = some (some b)) : TSim w0 st (fun c => Φ c ∨ c = b) ν (σ.del k) := by
 refine ⟨h.ok, ?_, h.own, ?_, ?_, h.dom, ?_⟩
 ·intro i j c h1 h2
  rw [TS.get_del] at h1 h2
  split at h1
  ·cases h1
  ·split at h2
   ·cases h2
   ·exact h.inj i j c h1 h2
 ·intro i c h1 h2
  rw [TS.get_del] at h1
  split at h1
  ·cases h1
  ·rename_i hne
   rintro (h3 | rfl)
   ·exact h.npf i c h1 h2 h3
   ·exact hne (h.inj i k c h1 hk h2 hb)
 ·rintro c (h1 | rfl)
  ·exact h.fro c h1
  ·exact (h.own k c hb).2
 ·intro i o hi
  rw [TS.get_del] at hi
  split at hi
  ·cases hi
  ·rcases h.has hi with ⟨h1, h2⟩ | ⟨c, bk', h1, h2, h3⟩
   ·rw [h1]; exact h2
   ·rw [h1]
    exact ⟨bk', h2, h3.stable (fun _ h => .inl h) (fun _ _ => rfl) fun _ _ h => h⟩

theorem TSim.virt {st : St} {Φ : Nat → Prop} {ν : Nu} {σ : TS} (h : TSim w0 st Φ ν σ) (sz : Nat) (ty : TypeId) : TSim w0 st Φ (upN ν σ.next none) (σ.alloc (.rows sz [] ty)) := by
 have hd := h.dom σ.next (Nat.le_refl _)
 have hx := upN_ext hd none
 have key : ∀ i c, upN ν σ.next none i = some (some c) → i ≠ σ.next ∧ ν i = some (some c) := by
  intro i c hi
  by_cases e : i = σ.next
  ·subst e; rw [upN_self] at hi; cases hi
  ·exact ⟨e, by rw [upN_ne _ _ e] at hi; exact hi⟩
 refine ⟨h.ok, ?_, ?_, ?_, h.fro, ?_, ?_⟩
 ·intro i j c h1 h2 h3 h4
  obtain ⟨e1, h3⟩ := key i c h3
  obtain ⟨e2, h4⟩ := key j c h4
  rw [TS.get_alloc, if_neg e1] at h1
  rw [TS.get_alloc, if_neg e2] at h2
  exact h.inj i j c h1 h2 h3 h4
 ·intro i c h1
  exact h.own i c (key i c h1).2
 ·intro i c h1 h2
  obtain ⟨e1, h3⟩ := key i c h2
  rw [TS.get_alloc, if_neg e1] at h1
  exact h.npf i c h1 h3
 ·intro k hk
  have : σ.next + 1 ≤ k := hk
  rw [upN_ne _ _ (by omega)]
  exact h.dom k (by omega)
 ·intro i o hi
  rw [TS.get_alloc] at hi
  by_cases e : i = σ.next
  ·subst e
   rw [if_pos rfl] at hi; cases hi
   rw [upN_self]
   exact ⟨sz, ty, rfl⟩
  ·rw [if_neg e] at hi
   rw [upN_ne _ _ e]
   rcases h.has hi with ⟨h1, h2⟩ | ⟨c, bk', h1, h2, h3⟩
   ·rw [h1]; exact h2
   ·rw [h1]
    exact ⟨bk', h2, h3.stable (fun _ h => h) (fun _ _ => rfl) hx⟩
end Go.Proofs.YtnphhelbianjpaaGreatDoor.V
namespace Go.Proofs.YtnphhelbianjpaaGreatDoor.V
open Go Go.RowKit

def tcell : Value → TV
 | .agg cs => .agg (cs.toList.map .v)
 | x => .v x
def toTV : Value → TV
 | .agg cs => .agg (cs.toList.map .v)
 | .tuple vs => .tup (vs.toList.map tcell)
 | x => .v x
def tundef : TV := .tup []

section
variable {w0 : World}

theorem FRel.aggA {st : St} {Φ : Nat → Prop} {cs : Array Value} (h : cs.all atom = true) : FRel w0 st Φ (.agg (cs.toList.map .v)) (.agg cs) := by
 refine .agg _ _ (by simp) fun i x y hx hy => ?_
 simp only [List.getElem?_map, Array.getElem?_toList, hy, Option.map_some, Option.some.injEq] at hx
 subst hx
 refine .v _ ?_
 rw [Array.all_eq_true] at h
 obtain ⟨hi, rfl⟩ := Array.getElem?_eq_some_iff.1 hy
 exact h i hi

theorem FRel.flat {st : St} {Φ : Nat → Prop} {v : Value} (h : flatV v = true) : FRel w0 st Φ (toTV v) v := by
 cases v with
 | agg cs => exact .aggA h
 | tuple vs =>
  refine .tup _ _ (by simp) fun i x y hx hy => ?_
  simp only [List.getElem?_map, Array.getElem?_toList, hy, Option.map_some, Option.some.injEq] at hx
  subst hx
  simp only [flatV, Array.all_eq_true] at h
  obtain ⟨hi, rfl⟩ := Array.getElem?_eq_some_iff.1 hy
  have := h i hi
  generalize vs[i] = z at this ⊢
  cases z with
  | agg cs => simp only [atom, Bool.false_or] at this; exact .aggA this
  | _ => first | exact .v _ (by simpa using this) | (simp [atom] at this)
 | _ => first | exact .v _ h | (simp [flatV, atom] at h)

theorem cellsAt_part {st : St} {n b o m off : Nat} {cs : List Value} (h : cellsAt w0 st ⟨b, o, none⟩ n = some cs) (hl : off + m ≤ n) : cellsAt w0 st ⟨b, o + off, none⟩ m = some ((cs.drop off).take m) := by
 unfold cellsAt at h ⊢
 cases hc : cellsOf w0 st b with
 | none => simp [hc] at h
 | some C =>
  simp only [hc] at h ⊢
  split at h
  ·rename_i hfit
   rw [if_pos ⟨by omega, trivial⟩]
   have e : (C.drop (o + off)).take m = (((C.drop o).take n).drop off).take m := by
    rw [List.drop_take, List.drop_drop, List.take_take, Nat.min_eq_left (by omega)]
   split at h
   ·rename_i hlt
    rw [if_pos hlt]
    split at h
    ·rename_i hall
     cases h
     rw [if_pos, e]
     rw [e, List.all_eq_true]
     intro x hx
     exact List.all_eq_true.1 hall x (List.mem_of_mem_drop (List.mem_of_mem_take hx))
    ·cases h
   ·rename_i hlt
    cases h
    rw [if_neg hlt, e]
  ·cases h

theorem cellsAt_info {st : St} {n : Nat} {A : Addr} {cs : List Value} (h : cellsAt w0 st A n = some cs) : A.spot = none ∧ cs.length = n := by
 unfold cellsAt at h
 split at h
 ·split at h
  ·rename_i hfit
   refine ⟨hfit.2, ?_⟩
   split at h
   ·split at h
    ·cases h; simp; omega
    ·cases h
   ·cases h; simp; omega
  ·cases h
 ·cases h

theorem cellsAt_mine {st : St} {b o n : Nat} {vs : List Value} {ty : TypeId} (hb : w0.heap.size ≤ b) (h : st.blk b = some (.cells vs ty)) (hl : o + n ≤ vs.length) : cellsAt w0 st ⟨b, o, none⟩ n = some ((vs.drop o).take n) := by
 have hn : ¬ b < w0.heap.size := by omega
 simp [cellsAt, cellsOf, hn, h, hl]

def tO (env : TEnv) : Operand → Option TV
 | .tmp t => look t env
 | .const v => bif flatV v then some (toTV v) else none
 | _ => none

def TE (w0 : World) (st : St) (Φ : Nat → Prop) (ν : Nu) (env : TEnv) (venv : Env) : Prop := ∀ t x, look t env = some x → ∃ v, venv.lookup t = some v ∧ TRel w0 st Φ ν x v

theorem TE.stable {st st' : St} {Φ Φ' : Nat → Prop} {ν ν' : Nu} (hf : ∀ b, Φ b → Φ' b) (hs : ∀ b, Φ b → st'.blk b = st.blk b) (hn : ∀ k r, ν k = some r → ν' k = some r) {env : TEnv} {venv : Env}
  (h : TE w0 st Φ ν env venv) : TE w0 st' Φ' ν' env venv := fun t x ht => let ⟨v, h1, h2⟩ := h t x ht; ⟨v, h1, h2.stable hf hs hn⟩

theorem TE.put {st : St} {Φ : Nat → Prop} {ν : Nu} {env : TEnv} {venv : Env} (h : TE w0 st Φ ν env venv) {d : Nat} {x : TV} {v : Value} (hx : TRel w0 st Φ ν x v) : TE w0 st Φ ν ((d, x) :: env) ((d, v) :: venv) := by
 intro t y ht
 rw [look_cons] at ht
 rw [lookup_cons]
 split at ht
 ·rename_i e; cases ht; exact ⟨v, by rw [if_pos e], hx⟩
 ·rename_i e; rw [if_neg e]; exact h t y ht

theorem tO_sound {st : St} {Φ : Nat → Prop} {ν : Nu} {env : TEnv} {venv : Env} (h : TE w0 st Φ ν env venv) {x : Operand} {a : TV} (hx : tO env x = some a) : ∃ v, evalO venv x = some v ∧ TRel w0 st Φ ν a v := by
 cases x with
 | tmp t => exact h t a hx
 | const v =>
  simp only [tO] at hx
  cases hf : flatV v with
  | false => simp [hf] at hx
  | true =>
   simp only [hf, cond_true, Option.some.injEq] at hx
   subst hx
   exact ⟨v, by simp [evalO, hf], .f _ _ (.flat hf)⟩
 | global g => cases hx
 | func f => cases hx

section
variable {st : St} {Φ : Nat → Prop} {ν : Nu}
theorem TRel.v_inv {u v : Value} (h : TRel w0 st Φ ν (.v u) v) : v = u ∧ atom u = true := by
 cases h with
 | f _ _ h => cases h with
  | v _ h => exact ⟨rfl, h⟩
theorem TRel.agg_inv {cs : List TV} {v : Value} (h : TRel w0 st Φ ν (.agg cs) v) : ∃ vs : Array Value, v = .agg vs ∧ RelL w0 st Φ ν cs vs.toList := by
 cases h with
 | f _ _ h => cases h with
  | agg _ vs h1 h2 => exact ⟨vs, rfl, by simpa using h1, fun i x y hx hy => .f _ _ (h2 i x y hx (by simpa using hy))⟩
 | agg _ vs h1 h2 => exact ⟨vs, rfl, by simpa using h1, fun i x y hx hy => h2 i x y hx (by simpa using hy)⟩
theorem TRel.tup_inv {cs : List TV} {v : Value} (h : TRel w0 st Φ ν (.tup cs) v) : ∃ vs : Array Value, v = .tuple vs ∧ RelL w0 st Φ ν cs vs.toList := by
 cases h with
 | f _ _ h => cases h with
  | tup _ vs h1 h2 => exact ⟨vs, rfl, by simpa using h1, fun i x y hx hy => .f _ _ (h2 i x y hx (by simpa using hy))⟩
 | tup _ vs h1 h2 => exact ⟨vs, rfl, by simpa using h1, fun i x y hx hy => h2 i x y hx (by simpa using hy)⟩
theorem TRel.agg_of {cs : List TV} {vs : List Value} (h : RelL w0 st Φ ν cs vs) : TRel w0 st Φ ν (.agg cs) (.agg vs.toArray) :=
 .agg _ _ (by simpa using h.len) fun i x y hx hy => h.rel i x y hx (by simpa using hy)
theorem TRel.tup_of {cs : List TV} {vs : List Value} (h : RelL w0 st Φ ν cs vs) : TRel w0 st Φ ν (.tup cs) (.tuple vs.toArray) :=
 .tup _ _ (by simpa using h.len) fun i x y hx hy => h.rel i x y hx (by simpa using hy)
theorem TRel.p_inv {k off : Nat} {v : Value} (h : TRel w0 st Φ ν (.p k off) v) : ∃ b, ν k = some (some b) ∧ v = .pointer (some ⟨b, off, none⟩) := by
 cases h with
 | f _ _ h => cases h
 | p _ _ b h => exact ⟨b, h, rfl⟩
theorem TRel.e_inv {k sz i off : Nat} {v : Value} (h : TRel w0 st Φ ν (.e k sz i off) v) : ∃ b, ν k = some (some b) ∧ v = .pointer (some ⟨b, i * sz + off, none⟩) := by
 cases h with
 | f _ _ h => cases h
 | e _ _ _ _ b h => exact ⟨b, h, rfl⟩
theorem TRel.m_inv {k : Nat} {v : Value} (h : TRel w0 st Φ ν (.m k) v) : ∃ b, ν k = some (some b) ∧ v = .map (some b) := by
 cases h with
 | f _ _ h => cases h
 | m _ b h => exact ⟨b, h, rfl⟩
theorem TRel.s_inv {k sz o n : Nat} {c : Bool} {v : Value} (h : TRel w0 st Φ ν (.s k sz o n c) v) :
  (ν k = some none ∧ o = 0 ∧ n = 0 ∧ v = .slice none 0 0) ∨ ∃ b, ν k = some (some b) ∧ v = .slice (some ⟨b, o * sz, none⟩) n (bif c then sz else 0) := by
 cases h with
 | f _ _ h => cases h
 | s _ _ _ _ _ b h => exact .inr ⟨b, h, rfl⟩
 | sn _ _ _ h => exact .inl ⟨h, rfl, rfl, rfl⟩
theorem TRel.lst_inv {sz : Nat} {xs : List (List TV)} {v : Value} (h : TRel w0 st Φ ν (.lst sz xs) v) : FRel w0 st Φ (.lst sz xs) v := by
 cases h with
 | f _ _ h => exact h
theorem TRel.fp_inv {cs : List TV} {off : Nat} {v : Value} (h : TRel w0 st Φ ν (.fp cs off) v) : ∃ b o vs, v = .pointer (some ⟨b, o + off, none⟩) ∧ Froz w0 Φ b ∧ cellsAt w0 st ⟨b, o, none⟩ cs.length = some vs ∧ RelL w0 st Φ ν cs vs := by
 cases h with
 | f _ _ h => cases h with
  | fp _ _ b o vs h1 h2 h3 => exact ⟨b, o, vs, rfl, h1, h2, (cellsAt_info h2).2.symm, fun i x y hx hy => .f _ _ (h3 i x y hx hy)⟩

theorem RelL.drop {cs : List TV} {vs : List Value} (h : RelL w0 st Φ ν cs vs) (n : Nat) : RelL w0 st Φ ν (cs.drop n) (vs.drop n) :=
 ⟨by simp [h.len], fun i x y hx hy => h.rel (n + i) x y (by simpa using hx) (by simpa using hy)⟩
theorem RelL.take {cs : List TV} {vs : List Value} (h : RelL w0 st Φ ν cs vs) (n : Nat) : RelL w0 st Φ ν (cs.take n) (vs.take n) := by
 refine ⟨by simp [h.len], fun i x y hx hy => ?_⟩
 rw [List.getElem?_take] at hx hy
 split at hx
 ·rename_i hi
  rw [if_pos hi] at hy
  exact h.rel i x y hx hy
 ·cases hx
theorem RelL.append {cs cs' : List TV} {vs vs' : List Value} (h : RelL w0 st Φ ν cs vs) (h' : RelL w0 st Φ ν cs' vs') : RelL w0 st Φ ν (cs ++ cs') (vs ++ vs') := by
 refine ⟨by simp [h.len, h'.len], fun i x y hx hy => ?_⟩
 rw [List.getElem?_append] at hx hy
 split at hx
 ·rename_i hi
  rw [if_pos (by rw [← h.len]; exact hi)] at hy
  exact h.rel i x y hx hy
 ·rename_i hi
  rw [if_neg (by rw [← h.len]; exact hi), ← h.len] at hy
  exact h'.rel _ x y hx hy
theorem RelL.nil : RelL w0 st Φ ν [] [] := ⟨rfl, fun i x y hx => by simp at hx⟩
theorem RelL.cons {x : TV} {v : Value} {cs : List TV} {vs : List Value} (h : TRel w0 st Φ ν x v) (h' : RelL w0 st Φ ν cs vs) : RelL w0 st Φ ν (x :: cs) (v :: vs) := by
 refine ⟨by simp [h'.len], fun i y z hy hz => ?_⟩
 cases i with
 | zero => simp at hy hz; subst hy; subst hz; exact h
 | succ i => exact h'.rel i y z (by simpa using hy) (by simpa using hz)
theorem RelL.one {x : TV} {v : Value} (h : TRel w0 st Φ ν x v) : RelL w0 st Φ ν [x] [v] := .cons h .nil
end

def binI (op : BinOp) (k : IntKind) (a b : Int) : Option Value :=
 match op with
 | .add => some (.int k (k.wrap (a + b)))
 | .sub => some (.int k (k.wrap (a - b)))
 | .mul => some (.int k (k.wrap (a * b)))
 | .eql => some (.bool (decide (a = b)))
 | .neq => some (.bool (!decide (a = b)))
 | .lss => some (.bool (decide (a < b)))
 | .leq => some (.bool (decide (a ≤ b)))
 | .gtr => some (.bool (decide (b < a)))
 | .geq => some (.bool (decide (b ≤ a)))
 | .and => some (.int k (k.wrap (BitVec.ofInt k.bits a &&& BitVec.ofInt k.bits b).toNat))
 | .or => some (.int k (k.wrap (BitVec.ofInt k.bits a ||| BitVec.ofInt k.bits b).toNat))
 | .xor => some (.int k (k.wrap (BitVec.ofInt k.bits a ^^^ BitVec.ofInt k.bits b).toNat))
 | .rem => match b with
  | .ofNat (b + 1) => some (.int k (a.tmod ((b + 1 : Nat) : Int)))
  | _ => none
 | .quo => match b with
  | .ofNat (b + 1) => some (.int k (k.wrap (a.tdiv ((b + 1 : Nat) : Int))))
  | _ => none
 | _ => none

def sameK (a b : IntKind) : Bool := Nat.beq a.ctorIdx b.ctorIdx

def binT (op : BinOp) : Value → Value → Option Value
 | .int k a, .int k' b => bif sameK k k' then binI op k a b else none
 | .string a, .string b => match op with
  | .eql => some (.bool (decide (a = b)))
  | .neq => some (.bool (!decide (a = b)))
  | .lss => some (.bool (Op.bytesLess a.toList b.toList))
  | _ => none
 | _, _ => none

theorem sameK_eq {a b : IntKind} (h : sameK a b = true) : a = b := by cases a <;> cases b <;> first | rfl | (exact absurd h (by decide))

variable {P : Program}
theorem binI_sound {op : BinOp} {t : TypeId} {x y : Operand} {k : IntKind} {a b : Int} {v : Value} (h : binI op k a b = some v) :
  pureF P (do eqGuard op t x y (.int k a) (.int k b); binOp op t (.int k a) (.int k b)) = some v ∧ atom v = true := by
 cases op with
 | add => cases h; exact ⟨bin_add .., rfl⟩
 | sub => cases h; exact ⟨bin_sub .., rfl⟩
 | mul => cases h; exact ⟨bin_mul .., rfl⟩
 | eql => cases h; exact ⟨bin_eql .., rfl⟩
 | neq => cases h; exact ⟨by rw [bin_neq]; simp, rfl⟩
 | lss => cases h; exact ⟨bin_lss .., rfl⟩
 | leq => cases h; exact ⟨bin_leq .., rfl⟩
 | gtr => cases h; exact ⟨bin_gtr .., rfl⟩
 | geq => cases h; exact ⟨bin_geq .., rfl⟩
 | and => cases h; exact ⟨bin_eq P t x y _ _ _ _ (guard_int ..) (by simp [binOp, Op.intBits]; rfl) rfl, rfl⟩
 | or => cases h; exact ⟨bin_eq P t x y _ _ _ _ (guard_int ..) (by simp [binOp, Op.intBits]; rfl) rfl, rfl⟩
 | xor => cases h; exact ⟨bin_eq P t x y _ _ _ _ (guard_int ..) (by simp [binOp, Op.intBits]; rfl) rfl, rfl⟩
 | rem =>
  match b, h with
  | .ofNat (b + 1), h => cases h; exact ⟨bin_rem _ _ _ _ _ _ _ (by simp; omega), rfl⟩
 | quo =>
  match b, h with
  | .ofNat (b + 1), h => cases h; exact ⟨bin_quo _ _ _ _ _ _ _ (by simp; omega), rfl⟩
 | _ => cases h
theorem binT_sound {op : BinOp} {t : TypeId} {x y : Operand} {a b v : Value} (h : binT op a b = some v) : flatV a = true ∧ flatV b = true ∧ pureF P (do eqGuard op t x y a b; binOp op t a b) = some v ∧ atom v = true := by
 unfold binT at h
 split at h
 ·rename_i k i k' j
  cases hs : sameK k k' with
  | false => simp [hs] at h
  | true =>
   have := sameK_eq hs; subst this
   simp only [hs, cond_true] at h
   obtain ⟨h1, h2⟩ := binI_sound (P := P) (t := t) (x := x) (y := y) h
   exact ⟨rfl, rfl, h1, h2⟩
 ·rename_i a b
  split at h
  ·cases h; exact ⟨rfl, rfl, bin_seq .., rfl⟩
  ·cases h; exact ⟨rfl, rfl, by rw [bin_sne]; simp, rfl⟩
  ·cases h; exact ⟨rfl, rfl, bin_eq P t x y _ _ _ _ (guard_str ..) (by simp only [binOp, Op.stringOp]; rfl) rfl, rfl⟩
  ·cases h
 ·cases h
end
end Go.Proofs.YtnphhelbianjpaaGreatDoor.V
namespace Go.Proofs.YtnphhelbianjpaaGreatDoor.V
open Go Go.RowKit

def takeT : Nat → List TV → Option (List TV)
 | 0, _ => some []
 | n + 1, x :: r => match takeT n r with
  | some l => some (x :: l)
  | none => none
 | _ + 1, [] => none

def putAt : Nat → List TV → List TV → Option (List TV)
 | 0, [], cs => some cs
 | 0, x :: v, _ :: cs => match putAt 0 v cs with
  | some r => some (x :: r)
  | none => none
 | 0, _ :: _, [] => none
 | off + 1, v, c :: cs => match putAt off v cs with
  | some r => some (c :: r)
  | none => none
 | _ + 1, _, [] => none

theorem takeT_some : ∀ {n : Nat} {cs l : List TV}, takeT n cs = some l → l = cs.take n ∧ n ≤ cs.length
 | 0, cs, l, h => by simp [takeT] at h; simp [h]
 | n + 1, x :: r, l, h => by
  simp only [takeT] at h
  split at h
  ·rename_i l' h'
   cases h
   obtain ⟨h1, h2⟩ := takeT_some h'
   simp [h1, h2]
  ·cases h
 | n + 1, [], l, h => by simp [takeT] at h

theorem putAt_some : ∀ {off : Nat} {v cs r : List TV}, putAt off v cs = some r → r = cs.take off ++ v ++ cs.drop (off + v.length) ∧ off + v.length ≤ cs.length
 | 0, [], cs, r, h => by simp [putAt] at h; simp [h]
 | 0, x :: v, c :: cs, r, h => by
  simp only [putAt] at h
  split at h
  ·rename_i r' h'
   cases h
   obtain ⟨h1, h2⟩ := putAt_some h'
   subst h1
   simp at h2 ⊢; omega
  ·cases h
 | 0, x :: v, [], r, h => by simp [putAt] at h
 | off + 1, v, c :: cs, r, h => by
  simp only [putAt] at h
  split at h
  ·rename_i r' h'
   cases h
   obtain ⟨h1, h2⟩ := putAt_some h'
   subst h1
   simp only [List.length_cons, List.take_succ_cons, List.cons_append]
   refine ⟨?_, by omega⟩
   rw [show off + 1 + v.length = (off + v.length) + 1 by omega, List.drop_succ_cons]
  ·cases h
 | off + 1, v, [], r, h => by simp [putAt] at h

def cutT (agg : Bool) (n off : Nat) (cs : List TV) : Option TV :=
 match agg, n with
 | true, n + 1 => match takeT (n + 1) (cs.drop off) with
  | some l => some (.agg l)
  | none => none
 | false, 1 => match cs.drop off with
  | x :: _ => some x
  | [] => none
 | _, _ => none

def cellsT : TV → Option (List TV)
 | .agg cs => some cs
 | .tup _ => none
 | x => some [x]

def nilT : TV → Option Bool
 | .v (.pointer none) => some true
 | .fp _ _ => some false
 | .p _ _ => some false
 | .e _ _ _ _ => some false
 | _ => none

def tparts (env : TEnv) : List (Nat × Operand) → Option (List (Nat × List TV))
 | [] => some []
 | (i, x) :: r => match tO env x with
  | some a => match cellsT a with
   | some c => match tparts env r with
    | some l => some ((i, c) :: l)
    | none => none
   | none => none
  | none => none

def fillT (places : List (Nat × Nat)) (cells : List TV) : List (Nat × List TV) → Option (List TV)
 | [] => some cells
 | (i, v) :: rest => match places[i]? with
  | none => none
  | some (off, size) => bif Nat.beq v.length size then (match putAt off v cells with
   | some r => fillT places r rest
   | none => none) else none

def frozB : TV → Bool
 | .v _ | .lst _ _ | .fp _ _ | .fm _ | .ifc _ _ | .fn _ _ => true
 | _ => false
def frozL : List TV → Bool
 | [] => true
 | x :: r => bif frozB x then frozL r else false
def frozV : TV → Bool
 | .agg cs => frozL cs
 | .tup cs => frozL cs
 | x => frozB x

section
variable {w0 : World} {st : St} {Φ : Nat → Prop} {ν : Nu}
theorem frozB_rel {x : TV} (h : frozB x = true) {v : Value} (hv : TRel w0 st Φ ν x v) : FRel w0 st Φ x v := by
 cases hv <;> first | assumption | (simp [frozB] at h)
theorem frozL_all : ∀ {cs : List TV}, frozL cs = true → ∀ x ∈ cs, frozB x = true
 | [], _, x, hx => by cases hx
 | y :: r, h, x, hx => by
  simp only [frozL] at h
  cases hy : frozB y with
  | false => simp [hy] at h
  | true =>
   simp only [hy, cond_true] at h
   rcases List.mem_cons.1 hx with rfl | hx
   ·exact hy
   ·exact frozL_all h x hx
theorem frozL_rel {cs : List TV} (h : frozL cs = true) {vs : List Value} (hv : RelL w0 st Φ ν cs vs) : RelF w0 st Φ cs vs :=
 ⟨hv.len, fun i x y hx hy => frozB_rel (frozL_all h x (List.mem_of_getElem? hx)) (hv.rel i x y hx hy)⟩
theorem frozV_rel {x : TV} (h : frozV x = true) {v : Value} (hv : TRel w0 st Φ ν x v) : FRel w0 st Φ x v := by
 cases x with
 | agg cs =>
  obtain ⟨vs, rfl, h2⟩ := hv.agg_inv
  have := frozL_rel h h2
  exact .agg _ _ (by simpa using this.len) fun i x y hx hy => this.rel i x y hx (by simpa using hy)
 | tup cs =>
  obtain ⟨vs, rfl, h2⟩ := hv.tup_inv
  have := frozL_rel h h2
  exact .tup _ _ (by simpa using this.len) fun i x y hx hy => this.rel i x y hx (by simpa using hy)
 | _ => exact frozB_rel (by simpa [frozV] using h) hv
theorem RelF.toL {cs : List TV} {vs : List Value} (h : RelF w0 st Φ cs vs) : RelL w0 st Φ ν cs vs := ⟨h.len, fun i x y hx hy => .f _ _ (h.rel i x y hx hy)⟩
end

def tev (env : TEnv) (σ : TS) : LOp → Option TV
 | .mov x => tO env x
 | .pick c a b => match tO env c with
  | some (.v (.bool t)) => bif t then tO env a else tO env b
  | _ => none
 | .bin op _ x y => match tO env x, tO env y with
  | some (.v a), some (.v b) => match binT op a b with
   | some v => some (.v v)
   | none => none
  | _, _ => none
 | .eqp neg x y => match tO env x, tO env y with
  | some a, some b => match nilT a, nilT b with
   | some true, some q => some (.v (.bool (bif neg then !q else q)))
   | some false, some true => some (.v (.bool neg))
   | _, _ => none
  | _, _ => none
 | .un op x => match tO env x, op with
  | some (.v (.bool b)), .not => some (.v (.bool (!b)))
  | some (.v (.int k a)), .neg => some (.v (.int k (k.wrap (0 - a))))
  | _, _ => none
 | .len x => match tO env x with
  | some (.lst _ xs) => some (.v (.int .i64 (xs.length : Int)))
  | some (.s _ _ _ n _) => some (.v (.int .i64 (n : Int)))
  | some (.v (.slice none n _)) => some (.v (.int .i64 (n : Int)))
  | _ => none
 | .lenS x => match tO env x with
  | some (.v (.string s)) => some (.v (.int .i64 (s.size : Int)))
  | _ => none
 | .nilchk x => match tO env x with
  | some (.fp cs o) => some (.fp cs o)
  | some (.p k o) => some (.p k o)
  | some (.e k sz i o) => some (.e k sz i o)
  | _ => none
 | .fa off x => match tO env x with
  | some (.fp cs o) => some (.fp cs (o + off))
  | some (.p k o) => some (.p k (o + off))
  | some (.e k sz i o) => some (.e k sz i (o + off))
  | _ => none
 | .ld n agg x => match tO env x with
  | some (.fp cs o) => cutT agg n o cs
  | some (.p k o) => match σ.get k with
   | some (.cells cs _) => cutT agg n o cs
   | _ => none
  | _ => none
 | .fld off n agg x => match tO env x with
  | some (.agg cs) => cutT agg n off cs
  | _ => none
 | .ext k x => match tO env x with
  | some (.tup vs) => vs[k]?
  | _ => none
 | .bld zero places parts => match tparts env parts with
  | some l => match fillT places (zero.map .v) l with
   | some cs => bif zero.all atom then some (.agg cs) else none
   | none => none
  | none => none
 | .min2 x y => match tO env x, tO env y with
  | some (.v (.int k a)), some (.v (.int _ b)) => some (.v (.int k (if b < a then b else a)))
  | _, _ => none
 | .mkI ty x => match tO env x with
  | some a => bif frozV a then some (.ifc ty a) else none
  | none => none
 | .asrt ty zero x => match tO env x with
  | some (.ifc u a) => bif Nat.beq u ty then some (.tup [a, .v (.bool true)]) else (bif flatV zero then some (.tup [toTV zero, .v (.bool false)]) else none)
  | some (.v .nilIface) => bif flatV zero then some (.tup [toTV zero, .v (.bool false)]) else none
  | _ => none
 | _ => none

def TL (P : Program) (w0 : World) (env : TEnv) (σ : TS) (l : LOp) (x : TV) : Prop :=
 ∀ (venv : Env) (st : St) (Φ : Nat → Prop) (ν : Nu), TSim w0 st Φ ν σ → TE w0 st Φ ν env venv → ∃ v, l.eval P w0 venv st = some v ∧ TRel w0 st Φ ν x v

section
variable {P : Program} {w0 : World} {st : St} {Φ : Nat → Prop} {ν : Nu}

theorem partOf_sound {n off : Nat} {cs : List TV} {vs : List Value} (h : RelL w0 st Φ ν cs vs) {agg : Bool} {x : TV} (hx : cutT agg n off cs = some x) :
  off + n ≤ cs.length ∧ ∃ v, partOf agg ((vs.drop off).take n) = some v ∧ TRel w0 st Φ ν x v := by
 unfold cutT at hx
 split at hx
 ·rename_i n
  split at hx
  ·rename_i l hl
   cases hx
   obtain ⟨rfl, h2⟩ := takeT_some hl
   exact ⟨by simp at h2; omega, .agg ((vs.drop off).take (n + 1)).toArray, rfl, TRel.agg_of ((h.drop off).take _)⟩
  ·cases hx
 ·cases hd : cs.drop off with
  | nil => simp [hd] at hx
  | cons y r =>
   simp only [hd, Option.some.injEq] at hx
   subst hx
   have hlt : off < cs.length := by
    rcases Nat.lt_or_ge off cs.length with h | h
    ·exact h
    ·rw [List.drop_eq_nil_of_le h] at hd; cases hd
   refine ⟨hlt, vs[off]'(by rw [← h.len]; exact hlt), ?_, ?_⟩
   ·rw [List.drop_eq_getElem_cons (by rw [← h.len]; exact hlt)]; rfl
   ·refine h.rel off y _ ?_ (List.getElem?_eq_getElem _)
    rw [List.drop_eq_getElem_cons hlt] at hd
    cases hd
    exact List.getElem?_eq_getElem _
 ·cases hx

theorem cellsT_sound {x : TV} {cs : List TV} (h : cellsT x = some cs) {v : Value} (hv : TRel w0 st Φ ν x v) : ∃ vs, cellsQ v = some vs ∧ RelL w0 st Φ ν cs vs := by
 cases x with
 | agg cs' => cases h; obtain ⟨vs, rfl, h2⟩ := hv.agg_inv; exact ⟨_, rfl, h2⟩
 | tup cs' => cases h
 | v u =>
  cases h
  obtain ⟨rfl, ha⟩ := hv.v_inv
  refine ⟨[v], ?_, RelL.one hv⟩
  cases v <;> first | rfl | (simp [atom] at ha)
 | lst sz xs =>
  cases h
  refine ⟨[v], ?_, RelL.one hv⟩
  cases hv.lst_inv; rfl
 | fp cs off =>
  cases h
  refine ⟨[v], ?_, RelL.one hv⟩
  obtain ⟨_, _, _, rfl, _⟩ := hv.fp_inv; rfl
 | fm es =>
  cases h
  refine ⟨[v], ?_, RelL.one hv⟩
  cases hv with
  | f _ _ h => cases h; rfl
 | ifc ty x =>
  cases h
  refine ⟨[v], ?_, RelL.one hv⟩
  cases hv with
  | f _ _ h => cases h; rfl
 | p k off =>
  cases h
  refine ⟨[v], ?_, RelL.one hv⟩
  obtain ⟨_, _, rfl⟩ := hv.p_inv; rfl
 | e k sz i off =>
  cases h
  refine ⟨[v], ?_, RelL.one hv⟩
  obtain ⟨_, _, rfl⟩ := hv.e_inv; rfl
 | s k sz o n c =>
  cases h
  refine ⟨[v], ?_, RelL.one hv⟩
  rcases hv.s_inv with ⟨_, _, _, rfl⟩ | ⟨_, _, rfl⟩ <;> rfl
 | m k =>
  cases h
  refine ⟨[v], ?_, RelL.one hv⟩
  obtain ⟨_, _, rfl⟩ := hv.m_inv; rfl
 | fn g cs' =>
  cases h
  refine ⟨[v], ?_, RelL.one hv⟩
  cases hv with
  | f _ _ h => cases h; rfl

theorem nilT_sound {x : TV} {b : Bool} (h : nilT x = some b) {v : Value} (hv : TRel w0 st Φ ν x v) : ∃ a, v = .pointer a ∧ a.isNone = b := by
 cases x with
 | v u =>
  obtain ⟨rfl, ha⟩ := hv.v_inv
  cases v with
  | pointer a => cases a with
   | none => cases h; exact ⟨none, rfl, rfl⟩
   | some a => simp [atom] at ha
  | _ => cases h
 | fp cs off => cases h; obtain ⟨_, _, _, rfl, _⟩ := hv.fp_inv; exact ⟨_, rfl, rfl⟩
 | p k off => cases h; obtain ⟨_, _, rfl⟩ := hv.p_inv; exact ⟨_, rfl, rfl⟩
 | e k sz i off => cases h; obtain ⟨_, _, rfl⟩ := hv.e_inv; exact ⟨_, rfl, rfl⟩
 | _ => cases h

structure PartsRel (w0 : World) (st : St) (Φ : Nat → Prop) (ν : Nu) (l : List (Nat × List TV)) (l' : List (Nat × List Value)) : Prop where
 len : l.length = l'.length
 rel : ∀ (i : Nat) (q : Nat × List TV) (q' : Nat × List Value), l[i]? = some q → l'[i]? = some q' → q.1 = q'.1 ∧ RelL w0 st Φ ν q.2 q'.2

theorem tparts_sound {env : TEnv} {venv : Env} (he : TE w0 st Φ ν env venv) : ∀ {parts : List (Nat × Operand)} {l : List (Nat × List TV)}, tparts env parts = some l → ∃ l', evalParts venv parts = some l' ∧ PartsRel w0 st Φ ν l l'
 | [], l, h => by cases h; exact ⟨[], rfl, rfl, fun i q q' hq => by simp at hq⟩
 | (i, x) :: r, l, h => by
  simp only [tparts] at h
  split at h
  ·rename_i a ha
   split at h
   ·rename_i c hc
    split at h
    ·rename_i l0 hl
     cases h
     obtain ⟨v, h1, h2⟩ := tO_sound he ha
     obtain ⟨vs, h3, h4⟩ := cellsT_sound hc h2
     obtain ⟨l', h5, h6⟩ := tparts_sound he hl
     refine ⟨(i, vs) :: l', by simp [evalParts, h1, h3, h5], by simp [h6.len], fun j q q' hq hq' => ?_⟩
     cases j with
     | zero => simp at hq hq'; subst hq; subst hq'; exact ⟨rfl, h4⟩
     | succ j => exact h6.rel j q q' (by simpa using hq) (by simpa using hq')
    ·cases h
   ·cases h
  ·cases h

theorem fillT_sound (places : List (Nat × Nat)) : ∀ {l : List (Nat × List TV)} {l' : List (Nat × List Value)} {cs r : List TV} {vs : List Value}, fillT places cs l = some r → PartsRel w0 st Φ ν l l' → RelL w0 st Φ ν cs vs →
  ∃ vs', fillL places vs l' = some vs' ∧ RelL w0 st Φ ν r vs'
 | [], [], cs, r, vs, h, hp, hr => by cases h; exact ⟨vs, rfl, hr⟩
 | [], _ :: _, cs, r, vs, h, hp, hr => by have := hp.len; simp at this
 | _ :: _, [], cs, r, vs, h, hp, hr => by have := hp.len; simp at this
 | (i, v) :: l, (i', v') :: l', cs, r, vs, h, hp, hr => by
  obtain ⟨h1, h2⟩ := hp.rel 0 _ _ rfl rfl
  simp only at h1 h2
  subst h1
  simp only [fillT] at h
  split at h
  ·cases h
  ·rename_i off size hpl
   cases hb : Nat.beq v.length size with
   | false => simp [hb] at h
   | true =>
    simp only [hb, cond_true] at h
    have hb' := Nat.eq_of_beq_eq_true hb
    split at h
    ·rename_i r0 h0
     obtain ⟨rfl, h4⟩ := putAt_some h0
     have hl := h2.len
     have hl2 := hr.len
     have hcs : RelL w0 st Φ ν (cs.take off ++ v ++ cs.drop (off + v.length)) (vs.take off ++ v' ++ vs.drop (off + size)) := by
      rw [hb'] ; exact ((hr.take off).append h2).append (hr.drop _)
     have hp' : PartsRel w0 st Φ ν l l' := ⟨by have := hp.len; simpa using this, fun j q q' hq hq' => hp.rel (j + 1) q q' (by simpa using hq) (by simpa using hq')⟩
     obtain ⟨vs', h5, h6⟩ := fillT_sound places h hp' hcs
     refine ⟨vs', ?_, h6⟩
     simp only [fillL, hpl]
     rw [if_pos (by omega)]
     exact h5
    ·cases h

theorem RelL.flatVs {zero : List Value} (h : zero.all atom = true) : RelL w0 st Φ ν (zero.map .v) zero := by
 refine ⟨by simp, fun i x y hx hy => ?_⟩
 rw [List.getElem?_map, hy] at hx
 simp at hx; subst hx
 exact .f _ _ (.v _ (List.all_eq_true.1 h y (List.mem_of_getElem? hy)))

theorem tev_sound {env : TEnv} {σ : TS} {l : LOp} {x : TV} (h : tev env σ l = some x) : TL P w0 env σ l x := by
 intro venv st Φ ν hs he
 cases l with
 | mov o =>
  obtain ⟨v, h1, h2⟩ := tO_sound he h
  exact ⟨v, h1, h2⟩
 | pick c a b =>
  simp only [tev] at h
  split at h
  ·rename_i t hc
   obtain ⟨vc, h1, h2⟩ := tO_sound he hc
   obtain ⟨rfl, _⟩ := h2.v_inv
   cases t with
   | true => obtain ⟨v, h3, h4⟩ := tO_sound he h; exact ⟨v, by simp [LOp.eval, h1, h3], h4⟩
   | false => obtain ⟨v, h3, h4⟩ := tO_sound he h; exact ⟨v, by simp [LOp.eval, h1, h3], h4⟩
  ·cases h
 | bin op t a b =>
  simp only [tev] at h
  split at h
  ·rename_i u w hu hw
   split at h
   ·rename_i v hb
    cases h
    obtain ⟨_, h1, h2⟩ := tO_sound he hu
    obtain ⟨_, h3, h4⟩ := tO_sound he hw
    obtain ⟨rfl, _⟩ := h2.v_inv
    obtain ⟨rfl, _⟩ := h4.v_inv
    obtain ⟨f1, f2, f3, f4⟩ := binT_sound (P := P) (t := t) (x := a) (y := b) hb
    exact ⟨v, by simp only [LOp.eval, h1, h3, f1, f2, Bool.and_self, if_true]; exact f3, .f _ _ (.v _ f4)⟩
   ·cases h
  ·cases h
 | eqp neg a b =>
  simp only [tev] at h
  split at h
  ·rename_i u w hu hw
   obtain ⟨_, h1, h2⟩ := tO_sound he hu
   obtain ⟨_, h3, h4⟩ := tO_sound he hw
   split at h
   ·rename_i q hp hq
    cases h
    obtain ⟨x, rfl, k1⟩ := nilT_sound hp h2
    obtain ⟨y, rfl, k2⟩ := nilT_sound hq h4
    refine ⟨_, ?_, .f _ _ (.v _ rfl)⟩
    cases x <;> simp at k1
    cases y <;> simp at k2 <;> subst k2 <;> cases neg <;> simp [LOp.eval, h1, h3]
   ·rename_i hp hq
    cases h
    obtain ⟨x, rfl, k1⟩ := nilT_sound hp h2
    obtain ⟨y, rfl, k2⟩ := nilT_sound hq h4
    refine ⟨_, ?_, .f _ _ (.v _ rfl)⟩
    cases x <;> simp at k1
    cases y <;> simp at k2
    cases neg <;> simp [LOp.eval, h1, h3]
   ·cases h
  ·cases h
 | un op a =>
  simp only [tev] at h
  split at h
  ·rename_i b hb
   cases h
   obtain ⟨_, h1, h2⟩ := tO_sound he hb
   obtain ⟨rfl, _⟩ := h2.v_inv
   exact ⟨.bool (!b), by simp only [LOp.eval, h1, flatV, atom, if_true]; rfl, .f _ _ (.v _ rfl)⟩
  ·rename_i k a hb
   cases h
   obtain ⟨_, h1, h2⟩ := tO_sound he hb
   obtain ⟨rfl, _⟩ := h2.v_inv
   exact ⟨.int k (k.wrap (0 - a)), by simp only [LOp.eval, h1, flatV, atom, if_true]; rfl, .f _ _ (.v _ rfl)⟩
  ·cases h
 | len a =>
  simp only [tev] at h
  split at h
  ·rename_i sz xs hb
   cases h
   obtain ⟨_, h1, h2⟩ := tO_sound he hb
   cases h2.lst_inv with
   | lst _ _ a n c vs hn => subst hn; exact ⟨_, by simp only [LOp.eval, h1], .f _ _ (.v _ rfl)⟩
  ·rename_i k sz o n c hb
   cases h
   obtain ⟨_, h1, h2⟩ := tO_sound he hb
   rcases h2.s_inv with ⟨_, _, rfl, rfl⟩ | ⟨_, _, rfl⟩ <;> exact ⟨_, by simp only [LOp.eval, h1], .f _ _ (.v _ rfl)⟩
  ·rename_i n c hb
   cases h
   obtain ⟨_, h1, h2⟩ := tO_sound he hb
   obtain ⟨rfl, _⟩ := h2.v_inv
   exact ⟨_, by simp only [LOp.eval, h1], .f _ _ (.v _ rfl)⟩
  ·cases h
 | lenS a =>
  simp only [tev] at h
  split at h
  ·rename_i s hb
   cases h
   obtain ⟨_, h1, h2⟩ := tO_sound he hb
   obtain ⟨rfl, _⟩ := h2.v_inv
   exact ⟨_, by simp only [LOp.eval, h1], .f _ _ (.v _ rfl)⟩
  ·cases h
 | nilchk a =>
  simp only [tev] at h
  split at h
  ·rename_i cs o hb
   cases h
   obtain ⟨_, h1, h2⟩ := tO_sound he hb
   have h2' := h2
   obtain ⟨_, _, _, rfl, _⟩ := h2'.fp_inv
   exact ⟨_, by simp only [LOp.eval, h1], h2⟩
  ·rename_i k o hb
   cases h
   obtain ⟨_, h1, h2⟩ := tO_sound he hb
   have h2' := h2
   obtain ⟨_, _, rfl⟩ := h2'.p_inv
   exact ⟨_, by simp only [LOp.eval, h1], h2⟩
  ·rename_i k sz i o hb
   cases h
   obtain ⟨_, h1, h2⟩ := tO_sound he hb
   have h2' := h2
   obtain ⟨_, _, rfl⟩ := h2'.e_inv
   exact ⟨_, by simp only [LOp.eval, h1], h2⟩
  ·cases h
 | fa off a =>
  simp only [tev] at h
  split at h
  ·rename_i cs o hb
   cases h
   obtain ⟨_, h1, h2⟩ := tO_sound he hb
   cases h2 with
   | f _ _ h2 => cases h2 with
    | fp _ _ b o' vs k1 k2 k3 =>
     exact ⟨.pointer (some ⟨b, o' + (o + off), none⟩), by simp only [LOp.eval, h1, addr_add, Nat.add_assoc], .f _ _ (.fp _ _ b o' vs k1 k2 k3)⟩
  ·rename_i k o hb
   cases h
   obtain ⟨_, h1, h2⟩ := tO_sound he hb
   obtain ⟨b, k1, rfl⟩ := h2.p_inv
   exact ⟨.pointer (some ⟨b, o + off, none⟩), by simp only [LOp.eval, h1, addr_add], .p _ _ b k1⟩
  ·rename_i k sz i o hb
   cases h
   obtain ⟨_, h1, h2⟩ := tO_sound he hb
   obtain ⟨b, k1, rfl⟩ := h2.e_inv
   exact ⟨.pointer (some ⟨b, i * sz + (o + off), none⟩), by simp only [LOp.eval, h1, addr_add, Nat.add_assoc], .e _ _ _ _ b k1⟩
  ·cases h
 | ld n agg a =>
  simp only [tev] at h
  split at h
  ·rename_i cs o hb
   obtain ⟨_, h1, h2⟩ := tO_sound he hb
   obtain ⟨b, o', vs, rfl, k1, k2, k3⟩ := h2.fp_inv
   obtain ⟨m1, v, m2, m3⟩ := partOf_sound k3 h
   refine ⟨v, ?_, m3⟩
   simp only [LOp.eval, h1, cellsAt_part k2 m1]; exact m2
  ·rename_i k o hb
   obtain ⟨_, h1, h2⟩ := tO_sound he hb
   obtain ⟨b, k1, rfl⟩ := h2.p_inv
   split at h
   ·rename_i cs ty hg
    rcases hs.has hg with ⟨q1, _, _, q2⟩ | ⟨b', bk, q1, q2, q3⟩
    ·cases q2
    ·rw [k1] at q1; cases q1
     cases bk with
     | cells vs ty' =>
      obtain ⟨m1, v, m2, m3⟩ := partOf_sound q3.2 h
      refine ⟨v, ?_, m3⟩
      simp only [LOp.eval, h1, cellsAt_mine (hs.lt k1).1 q2 (by rw [← q3.2.len]; exact m1)]; exact m2
     | _ => exact q3.elim
   ·cases h
  ·cases h
 | fld off n agg a =>
  simp only [tev] at h
  split at h
  ·rename_i cs hb
   obtain ⟨_, h1, h2⟩ := tO_sound he hb
   obtain ⟨vs, rfl, k3⟩ := h2.agg_inv
   obtain ⟨m1, v, m2, m3⟩ := partOf_sound k3 h
   refine ⟨v, ?_, m3⟩
   have : off + n ≤ vs.size := by have := k3.len; simp at this; omega
   simp only [LOp.eval, h1, if_pos this]; exact m2
  ·cases h
 | ext k a =>
  simp only [tev] at h
  split at h
  ·rename_i cs hb
   obtain ⟨_, h1, h2⟩ := tO_sound he hb
   obtain ⟨vs, rfl, k3⟩ := h2.tup_inv
   have hlt : k < vs.toList.length := by rw [← k3.len]; exact (List.getElem?_eq_some_iff.1 h).1
   refine ⟨vs.toList[k], ?_, k3.rel k x _ h (List.getElem?_eq_getElem hlt)⟩
   simp only [LOp.eval, h1]
   rw [← Array.getElem?_toList]; exact List.getElem?_eq_getElem hlt
  ·cases h
 | bld zero places parts =>
  simp only [tev] at h
  split at h
  ·rename_i l hl
   split at h
   ·rename_i cs hc
    cases hz : zero.all atom with
    | false => simp [hz] at h
    | true =>
     simp only [hz, cond_true, Option.some.injEq] at h
     subst h
     obtain ⟨l', h1, h2⟩ := tparts_sound he hl
     obtain ⟨vs, h3, h4⟩ := fillT_sound places hc h2 (.flatVs hz)
     exact ⟨_, by simp only [LOp.eval, h1, h3, Option.map_some], TRel.agg_of h4⟩
   ·cases h
  ·cases h
 | mkI ty a =>
  simp only [tev] at h
  split at h
  ·rename_i x hx
   cases hf : frozV x with
   | false => simp [hf] at h
   | true =>
    simp only [hf, cond_true, Option.some.injEq] at h
    subst h
    obtain ⟨v, h1, h2⟩ := tO_sound he hx
    exact ⟨.iface ty v, by simp only [LOp.eval, h1, Option.map_some], .f _ _ (.ifc _ _ _ (frozV_rel hf h2))⟩
  ·cases h
 | asrt ty zero a =>
  simp only [tev] at h
  split at h
  ·rename_i u y hx
   obtain ⟨v, h1, h2⟩ := tO_sound he hx
   cases h2 with
   | f _ _ h2 => cases h2 with
    | ifc _ _ w hw =>
     cases hb : Nat.beq u ty with
     | true =>
      simp only [hb, cond_true, Option.some.injEq] at h
      subst h
      have := Nat.eq_of_beq_eq_true hb
      exact ⟨.tuple #[w, .bool true], by simp only [LOp.eval, h1, if_pos this], TRel.tup_of (.cons (.f _ _ hw) (.one (.f _ _ (.v _ rfl))))⟩
     | false =>
      have hne : ¬ u = ty := fun e => by rw [e, Nat.beq_refl] at hb; cases hb
      cases hz : flatV zero with
      | false => simp [hb, hz] at h
      | true =>
       simp only [hb, cond_false, hz, cond_true, Option.some.injEq] at h
       subst h
       exact ⟨.tuple #[zero, .bool false], by simp only [LOp.eval, h1, if_neg hne], TRel.tup_of (.cons (.f _ _ (.flat hz)) (.one (.f _ _ (.v _ rfl))))⟩
  ·rename_i hx
   obtain ⟨v, h1, h2⟩ := tO_sound he hx
   obtain ⟨rfl, _⟩ := h2.v_inv
   cases hz : flatV zero with
   | false => simp [hz] at h
   | true =>
    simp only [hz, cond_true, Option.some.injEq] at h
    subst h
    exact ⟨.tuple #[zero, .bool false], by simp only [LOp.eval, h1], TRel.tup_of (.cons (.f _ _ (.flat hz)) (.one (.f _ _ (.v _ rfl))))⟩
  ·cases h
 | min2 a b =>
  simp only [tev] at h
  split at h
  ·rename_i k u k' w hu hw
   cases h
   obtain ⟨_, h1, h2⟩ := tO_sound he hu
   obtain ⟨_, h3, h4⟩ := tO_sound he hw
   obtain ⟨rfl, _⟩ := h2.v_inv
   obtain ⟨rfl, _⟩ := h4.v_inv
   exact ⟨_, by simp only [LOp.eval, h1, h3], .f _ _ (.v _ rfl)⟩
  ·cases h
 | _ => cases h
end
end Go.Proofs.YtnphhelbianjpaaGreatDoor.V
namespace Go.Proofs.YtnphhelbianjpaaGreatDoor.V
open Go Go.RowKit

structure Cx where
 P : Program
 G : World → Prop
 w0 : World
 hG : G w0
 st0 : St
 Φ0 : Nat → Prop
 L : Nat → Prop
 ν0 : Nu
 pins : List Nat

structure RelT (C : Cx) (env : TEnv) (σ : TS) (venv : Env) (st : St) (Φ : Nat → Prop) (ν : Nu) : Prop where
 sim : TSim C.w0 st Φ ν σ
 env : TE C.w0 st Φ ν env venv
 next : C.st0.next ≤ st.next
 frame : ∀ b, b < C.st0.next → ¬ C.L b → st.blk b = C.st0.blk b
 mine : ∀ k b, ν k = some (some b) → C.L b ∨ C.st0.next ≤ b
 pin : ∀ j ∈ C.pins, ν j = C.ν0 j ∧ C.ν0 j ≠ none
 phi0 : ∀ b, C.Φ0 b → Φ b
 phi : ∀ b, Φ b → C.Φ0 b ∨ C.L b ∨ C.st0.next ≤ b

abbrev TK := TEnv → TS → Prop

def Lift (C : Cx) (K : TK) : Env → St → Prop := fun venv st => ∃ env σ Φ ν, RelT C env σ venv st Φ ν ∧ K env σ

def TwR (C : Cx) (rs : List ROp) (K : TK) (env : TEnv) (σ : TS) : Prop :=
 ∀ venv st Φ ν, RelT C env σ venv st Φ ν → wpR C.P C.w0 rs (Lift C K) venv st

def Weak (C : Cx) (env : TEnv) (σ : TS) (env' : TEnv) (σ' : TS) : Prop :=
 ∀ venv st Φ ν, RelT C env σ venv st Φ ν → ∃ Φ' ν', RelT C env' σ' venv st Φ' ν'

def putT (d : Option Nat) (x : TV) (env : TEnv) : TEnv :=
 match d with
 | some d => (d, x) :: env
 | none => env

section
variable {C : Cx} {K : TK} {env : TEnv} {σ : TS} {rest : List ROp} {d : Nat} {q : Bool} {ks : List LOp}

theorem Weak.refl (env : TEnv) (σ : TS) : Weak C env σ env σ := fun _ _ Φ ν h => ⟨Φ, ν, h⟩
theorem Weak.trans {e1 e2 e3 : TEnv} {s1 s2 s3 : TS} (h : Weak C e1 s1 e2 s2) (k : Weak C e2 s2 e3 s3) : Weak C e1 s1 e3 s3 :=
 fun venv st Φ ν hr => let ⟨_, _, h1⟩ := h venv st Φ ν hr; k _ _ _ _ h1

theorem tr_nil (h : K env σ) : TwR C [] K env σ := fun _ _ Φ ν hr => ⟨env, σ, Φ, ν, hr, h⟩
theorem tr_weak {rs : List ROp} {env' : TEnv} {σ' : TS} (hw : Weak C env σ env' σ') (h : TwR C rs K env' σ') : TwR C rs K env σ :=
 fun venv st Φ ν hr => let ⟨_, _, h1⟩ := hw venv st Φ ν hr; h _ _ _ _ h1

theorem RelT.pinN {venv : Env} {st : St} {Φ : Nat → Prop} {ν : Nu} (h : RelT C env σ venv st Φ ν) (r : Option Nat) : ∀ j ∈ C.pins, upN ν σ.next r j = C.ν0 j ∧ C.ν0 j ≠ none := by
 intro j hj
 obtain ⟨h1, h2⟩ := h.pin j hj
 rw [upN_ne _ _ (fun e => ?_)]
 ·exact ⟨h1, h2⟩
 ·subst e
  exact h2 (by rw [← h1]; exact h.sim.dom _ (Nat.le_refl _))

theorem RelT.put {venv : Env} {st : St} {Φ : Nat → Prop} {ν : Nu} (h : RelT C env σ venv st Φ ν) {x : TV} {v : Value} (hx : TRel C.w0 st Φ ν x v) (d : Nat) : RelT C ((d, x) :: env) σ ((d, v) :: venv) st Φ ν :=
 ⟨h.sim, h.env.put hx, h.next, h.frame, h.mine, h.pin, h.phi0, h.phi⟩

theorem RelT.putO {venv : Env} {st : St} {Φ : Nat → Prop} {ν : Nu} (h : RelT C env σ venv st Φ ν) {x : TV} {v : Value} (hx : TRel C.w0 st Φ ν x v) (d : Option Nat) : RelT C (putT d x env) σ (putE d v venv) st Φ ν := by
 cases d with
 | none => exact h
 | some d => exact h.put hx d

theorem rel_undef {w0 : World} {st : St} {Φ : Nat → Prop} {ν : Nu} : TRel w0 st Φ ν tundef undef := .f _ _ (.tup _ _ rfl (by simp))

theorem lT {l : LOp} {x : TV} (hl : TL C.P C.w0 env σ l x) (h : TwR C rest K ((d, x) :: env) σ) : TwR C (⟨some d, none, .light l, q, ks⟩ :: rest) K env σ := by
 intro venv st Φ ν hr
 obtain ⟨v, h1, h2⟩ := hl venv st Φ ν hr.sim hr.env
 exact ⟨fun _ => (by simp only [COp.step, h1]; exact h _ _ _ _ (hr.put h2 d)), fun h => (by simp at h)⟩

theorem tr_ev {l : LOp} {x : TV} (hl : tev env σ l = some x) (h : TwR C rest K ((d, x) :: env) σ) : TwR C (⟨some d, none, .light l, q, ks⟩ :: rest) K env σ := lT (tev_sound hl) h

theorem tr_guard {t : Nat} {w b : Bool} {dst : Option Nat} {o : COp} (ht : look t env = some (.v (.bool b))) (h1 : b = w → TwR C (⟨dst, none, o, q, ks⟩ :: rest) K env σ)
  (h2 : b ≠ w → TwR C rest K (putT dst tundef env) σ) : TwR C (⟨dst, some (t, w), o, q, ks⟩ :: rest) K env σ := by
 intro venv st Φ ν hr
 obtain ⟨v, e1, e2⟩ := hr.env t _ ht
 obtain ⟨rfl, _⟩ := e2.v_inv
 have hg : guardOf venv (some (t, w)) = some (b == w) := by simp only [guardOf, e1]
 show guardV (guardOf venv (some (t, w))) _ _
 rw [hg]
 refine ⟨fun hb => ?_, fun hb => ?_⟩
 ·have := h1 (by simpa using hb) _ _ _ _ hr
  exact this.1 rfl
 ·exact h2 (by simpa using hb) _ _ _ _ (hr.putO rel_undef dst)
theorem gY {t : Nat} {w b : Bool} {dst : Option Nat} {o : COp} (ht : look t env = some (.v (.bool b))) (hb : b = w) (h1 : TwR C (⟨dst, none, o, q, ks⟩ :: rest) K env σ) : TwR C (⟨dst, some (t, w), o, q, ks⟩ :: rest) K env σ :=
 tr_guard ht (fun _ => h1) fun h => absurd hb h
theorem gN {t : Nat} {w b : Bool} {dst : Option Nat} {o : COp} (ht : look t env = some (.v (.bool b))) (hb : (!w) = b) (h1 : TwR C rest K (putT dst tundef env) σ) : TwR C (⟨dst, some (t, w), o, q, ks⟩ :: rest) K env σ :=
 tr_guard ht (fun h => absurd h (by subst hb; cases w <;> decide)) fun _ => h1
theorem tr_guard_u {t : Nat} {w : Bool} {dst : Option Nat} {o : COp} {l : List TV} (ht : look t env = some (.tup l)) (h1 : TwR C rest K (putT dst tundef env) σ) : TwR C (⟨dst, some (t, w), o, q, ks⟩ :: rest) K env σ := by
 intro venv st Φ ν hr
 obtain ⟨v, e1, e2⟩ := hr.env t _ ht
 obtain ⟨vs, rfl, _⟩ := e2.tup_inv
 have hg : guardOf venv (some (t, w)) = some false := by simp only [guardOf, e1]
 show guardV (guardOf venv (some (t, w))) _ _
 rw [hg]
 exact ⟨fun hb => (by cases hb), fun _ => h1 _ _ _ _ (hr.putO rel_undef dst)⟩

def chunkT (sz : Nat) : Nat → List TV → Option (List (List TV))
 | 0, [] => some []
 | 0, _ :: _ => none
 | n + 1, cs => match takeT sz cs with
  | some x => match chunkT sz n (cs.drop sz) with
   | some r => some (x :: r)
   | none => none
  | none => none

theorem chunkT_some {sz : Nat} : ∀ {n : Nat} {cs : List TV} {r : List (List TV)}, chunkT sz n cs = some r → r.length = n ∧ r.flatten = cs ∧ ∀ x ∈ r, x.length = sz
 | 0, [], r, h => by cases h; simp
 | 0, _ :: _, r, h => by cases h
 | n + 1, cs, r, h => by
  simp only [chunkT] at h
  split at h
  ·rename_i x hx
   split at h
   ·rename_i r' hr
    cases h
    obtain ⟨h1, h2, h3⟩ := chunkT_some hr
    obtain ⟨rfl, h5⟩ := takeT_some hx
    refine ⟨by simp [h1], by simp [h2], ?_⟩
    intro y hy
    rcases List.mem_cons.1 hy with rfl | hy
    ·simp; omega
    ·exact h3 y hy
   ·cases h
  ·cases h

def tevA (env : TEnv) : AOp → Option (TObj × (Nat → TV))
 | .cells cs ty => bif cs.all atom then some (.cells (cs.map .v) ty, fun k => .p k 0) else none
 | .box n ty x => match tO env x with
  | some a => match cellsT a with
   | some cs => bif Nat.beq cs.length n then some (.cells cs ty, fun k => .p k 0) else none
   | none => none
  | none => none
 | .row ty sz len zero parts => match tparts env parts with
  | some l => match fillT ((List.range len).map fun i => (i * sz, sz)) (zero.map .v) l with
   | some cs => match chunkT sz len cs with
    | some xs => bif zero.all atom && Nat.blt len 9223372036854775808 && frozL cs then some (.rows sz xs ty, fun k => .s k sz 0 len true) else none
    | none => none
   | none => none
  | none => none
 | .mkmap => some (.map [], fun k => .m k)
 | .iter x => match tO env x with
  | some (.v (.string s)) => some (.iter s 0, fun k => .p k 0)
  | _ => none
 | _ => none

theorem tevA_sound {w0 : World} {st : St} {Φ : Nat → Prop} {ν : Nu} {venv : Env} (he : TE w0 st Φ ν env venv) {A : AOp} {o : TObj} {mk : Nat → TV} (h : tevA env A = some (o, mk)) :
  ∃ bk vmk, A.eval venv = some (bk, vmk) ∧ CRel w0 st Φ ν o bk ∧ ∀ (st' : St) (Φ' : Nat → Prop) (ν' : Nu) (k b : Nat), ν' k = some (some b) → TRel w0 st' Φ' ν' (mk k) (vmk b) := by
 cases A with
 | cells cs ty =>
  simp only [tevA] at h
  cases hz : cs.all atom with
  | false => simp [hz] at h
  | true =>
   simp only [hz, cond_true, Option.some.injEq, Prod.mk.injEq] at h
   obtain ⟨rfl, rfl⟩ := h
   exact ⟨_, _, rfl, ⟨rfl, .flatVs hz⟩, fun st' Φ' ν' k b hk => .p _ _ b hk⟩
 | box n ty x =>
  simp only [tevA] at h
  split at h
  ·rename_i a ha
   split at h
   ·rename_i cs hc
    cases hb : Nat.beq cs.length n with
    | false => simp [hb] at h
    | true =>
     simp only [hb, cond_true, Option.some.injEq, Prod.mk.injEq] at h
     obtain ⟨rfl, rfl⟩ := h
     obtain ⟨v, h1, h2⟩ := tO_sound he ha
     obtain ⟨vs, h3, h4⟩ := cellsT_sound hc h2
     have := Nat.eq_of_beq_eq_true hb
     refine ⟨.cells vs ty, ptrTo, by simp [AOp.eval, h1, h3, ← h4.len, this], ⟨rfl, h4⟩, fun st' Φ' ν' k b hk => .p _ _ b hk⟩
   ·cases h
  ·cases h
 | row ty sz len zero parts =>
  simp only [tevA] at h
  split at h
  ·rename_i l hl
   split at h
   ·rename_i cs hc
    split at h
    ·rename_i xs hx
     cases hz : zero.all atom with
     | false => simp [hz] at h
     | true =>
      cases hn : Nat.blt len 9223372036854775808 with
      | false => simp [hz, hn] at h
      | true =>
       cases hfz : frozL cs with
       | false => simp [hz, hn, hfz] at h
       | true =>
        simp only [hz, hn, hfz, Bool.and_self, cond_true, Option.some.injEq, Prod.mk.injEq] at h
        obtain ⟨rfl, rfl⟩ := h
        obtain ⟨l', h1, h2⟩ := tparts_sound he hl
        obtain ⟨vs, h3, h4⟩ := fillT_sound _ hc h2 (.flatVs hz)
        obtain ⟨k1, k2, k3⟩ := chunkT_some hx
        have hlt : len < 9223372036854775808 := by simp [Nat.blt] at hn; omega
        refine ⟨.cells vs ty, fun b => .slice (some ⟨b, 0, none⟩) len sz, by simp only [AOp.eval, h1, h3, Option.map_some], ⟨rfl, k3, by omega, by rw [k2]; exact frozL_rel hfz h4⟩, fun st' Φ' ν' k b hk => ?_⟩
        have := TRel.s (w0 := w0) (st := st') (Φ := Φ') k sz 0 len true b hk
        rwa [Nat.zero_mul] at this
    ·cases h
   ·cases h
  ·cases h
 | mkmap =>
  cases h
  exact ⟨_, _, rfl, ⟨rfl, fun i k x hx => by simp at hx⟩, fun st' Φ' ν' k b hk => .m _ b hk⟩
 | iter x =>
  simp only [tevA] at h
  split at h
  ·rename_i s hs
   cases h
   obtain ⟨_, h1, h2⟩ := tO_sound he hs
   obtain ⟨rfl, _⟩ := h2.v_inv
   exact ⟨.iter s 0, ptrTo, by simp only [AOp.eval, h1], ⟨rfl, rfl⟩, fun st' Φ' ν' k b hk => .p _ _ b hk⟩
  ·cases h
 | make ty sz bytes zero l c => cases h

theorem RelT.alloc {venv : Env} {st : St} {Φ : Nat → Prop} {ν : Nu} (hr : RelT C env σ venv st Φ ν) {o : TObj} {bk : Blk} (hc : CRel C.w0 st Φ ν o bk) :
  RelT C env (σ.alloc o) venv (st.alloc bk) Φ (upN ν σ.next (some st.next)) := by
 have hd := hr.sim.dom σ.next (Nat.le_refl _)
 have hx := upN_ext hd (some st.next)
 have hs : ∀ b, Φ b → (st.alloc bk).blk b = st.blk b := fun b hb => alloc_ne _ _ (Nat.ne_of_lt (hr.sim.fro b hb))
 refine ⟨hr.sim.alloc hc, hr.env.stable (fun _ h => h) hs hx, Nat.le_succ_of_le hr.next, ?_, ?_, hr.pinN _, hr.phi0, hr.phi⟩
 ·intro b hb hl
  rw [alloc_ne _ _ (by have := hr.next; omega)]
  exact hr.frame b hb hl
 ·intro k b hk
  by_cases e : k = σ.next
  ·subst e; rw [upN_self] at hk; cases hk; exact .inr hr.next
  ·rw [upN_ne _ _ e] at hk; exact hr.mine k b hk

theorem tr_alloc {A : AOp} {o : TObj} {mk : Nat → TV} (hA : tevA env A = some (o, mk)) (h : TwR C rest K ((d, mk σ.next) :: env) (σ.alloc o)) : TwR C (⟨some d, none, .alloc A, q, ks⟩ :: rest) K env σ := by
 intro venv st Φ ν hr
 obtain ⟨bk, vmk, h1, h2, h3⟩ := tevA_sound hr.env hA
 refine ⟨fun _ => ?_, fun h => by simp at h⟩
 simp only [COp.step, h1]
 exact h _ _ _ _ ((hr.alloc h2).put (h3 _ _ _ _ _ (upN_self ..)) d)

theorem RelF.replicate {w0 : World} {st : St} {Φ : Nat → Prop} {zero : List Value} (h : zero.all atom = true) (n : Nat) : RelF w0 st Φ (List.replicate n (zero.map TV.v)).flatten (zeros n zero) := by
 have e : (List.replicate n (zero.map TV.v)).flatten = (zeros n zero).map TV.v := by
  unfold zeros
  rw [List.map_flatten, List.map_replicate]
 rw [e]
 have hz := zeros_atoms h n
 refine ⟨by simp, fun i x y hx hy => ?_⟩
 rw [List.getElem?_map, hy] at hx
 simp at hx; subst hx
 exact .v _ (List.all_eq_true.1 hz y (List.mem_of_getElem? hy))

theorem tr_make {ty : TypeId} {sz bytes : Nat} {zero : List Value} {l c : Operand} {n : Int} (hl : tO env l = some (.v (.int .i64 n))) (hc : tO env c = some (.v (.int .i64 n))) (hz : zero.all atom = true) (hsz : Nat.beq zero.length sz = true)
  (hb : 0 ≤ n ∧ n * bytes ≤ 140737488355328 ∧ n < 9223372036854775808)
  (h : TwR C rest K ((d, .s σ.next sz 0 n.toNat true) :: env) (σ.alloc (.rows sz (List.replicate n.toNat (zero.map .v)) ty))) : TwR C (⟨some d, none, .alloc (.make ty sz bytes zero l c), q, ks⟩ :: rest) K env σ := by
 intro venv st Φ ν hr
 obtain ⟨_, h1, h2⟩ := tO_sound hr.env hl
 obtain ⟨_, h3, h4⟩ := tO_sound hr.env hc
 obtain ⟨rfl, _⟩ := h2.v_inv
 obtain ⟨rfl, _⟩ := h4.v_inv
 refine ⟨fun _ => ?_, fun h => by simp at h⟩
 have he : (AOp.make ty sz bytes zero l c).eval venv = some (.cells (zeros n.toNat zero) ty, fun b => .slice (some ⟨b, 0, none⟩) n.toNat sz) := by
  simp only [AOp.eval, h1, h3]
  rw [if_pos ⟨hb.1, trivial, hb.2.1, hb.2.2⟩]
 simp only [COp.step, he]
 have hcr : CRel C.w0 st Φ ν (.rows sz (List.replicate n.toNat (zero.map .v)) ty) (.cells (zeros n.toNat zero) ty) := by
  refine ⟨rfl, ?_, by rw [List.length_replicate]; omega, .replicate hz _⟩
  intro x hx
  rw [(List.mem_replicate.1 hx).2]
  have := Nat.eq_of_beq_eq_true hsz
  simpa using this
 refine h _ _ _ _ ((hr.alloc hcr).put ?_ d)
 have := TRel.s (w0 := C.w0) (st := st.alloc (.cells (zeros n.toNat zero) ty)) (Φ := Φ) (ν := upN ν σ.next (some st.next)) σ.next sz 0 n.toNat true st.next (upN_self ..)
 rwa [Nat.zero_mul] at this
end
end Go.Proofs.YtnphhelbianjpaaGreatDoor.V
namespace Go.Proofs.YtnphhelbianjpaaGreatDoor.V
open Go Go.RowKit

theorem flat_len {sz : Nat} : ∀ {xs : List (List TV)}, (∀ x ∈ xs, x.length = sz) → xs.flatten.length = xs.length * sz
 | [], _ => by simp
 | x :: xs, h => by
  simp only [List.flatten_cons, lA, List.length_cons, flat_len fun y hy => h y (List.mem_cons_of_mem _ hy), h x (List.mem_cons_self ..)]
  rw [Nat.add_mul]; omega

theorem flat_row {sz : Nat} : ∀ {xs : List (List TV)} {i : Nat} {x : List TV}, (∀ x ∈ xs, x.length = sz) → xs[i]? = some x → (xs.flatten.drop (i * sz)).take sz = x ∧ i * sz + sz ≤ xs.flatten.length
 | [], i, x, _, hx => by simp at hx
 | y :: xs, 0, x, h, hx => by
  simp only [List.getElem?_cons_zero, Option.some.injEq] at hx
  subst hx
  have hy := h y (List.mem_cons_self ..)
  simp only [Nat.zero_mul, List.drop_zero, List.flatten_cons, Nat.zero_add, lA]
  exact ⟨by rw [← hy, List.take_left'] ; rfl, by omega⟩
 | y :: xs, i + 1, x, h, hx => by
  have hy := h y (List.mem_cons_self ..)
  obtain ⟨h1, h2⟩ := flat_row (fun z hz => h z (List.mem_cons_of_mem _ hz)) (show xs[i]? = some x by simpa using hx)
  have e : (i + 1) * sz = y.length + i * sz := by rw [hy, Nat.add_mul]; omega
  rw [List.flatten_cons, e, List.drop_append, lA]
  rw [List.drop_eq_nil_of_le (by omega), List.nil_append, show y.length + i * sz - y.length = i * sz by omega]
  exact ⟨h1, by omega⟩

theorem flat_put {sz : Nat} {ys : List TV} {off : Nat} : ∀ {xs : List (List TV)} {i : Nat} {x : List TV}, (∀ x ∈ xs, x.length = sz) → xs[i]? = some x → off + ys.length ≤ sz →
  (xs.set i (x.take off ++ ys ++ x.drop (off + ys.length))).flatten = xs.flatten.take (i * sz + off) ++ ys ++ xs.flatten.drop (i * sz + off + ys.length)
 | [], i, x, _, hx, _ => by simp at hx
 | y :: xs, 0, x, h, hx, ho => by
  simp only [List.getElem?_cons_zero, Option.some.injEq] at hx
  subst hx
  have hy := h y (List.mem_cons_self ..)
  simp only [List.set_cons_zero, List.flatten_cons, Nat.zero_mul, Nat.zero_add]
  rw [List.take_append_of_le_length (by omega), List.drop_append_of_le_length (by omega)]
  simp only [List.append_assoc]
 | y :: xs, i + 1, x, h, hx, ho => by
  have hy := h y (List.mem_cons_self ..)
  have ih := flat_put (fun z hz => h z (List.mem_cons_of_mem _ hz)) (show xs[i]? = some x by simpa using hx) ho
  have e : (i + 1) * sz = y.length + i * sz := by rw [hy, Nat.add_mul]; omega
  simp only [List.set_cons_succ, List.flatten_cons, ih, e]
  rw [show y.length + i * sz + off = y.length + (i * sz + off) by omega, show y.length + (i * sz + off) + ys.length = y.length + (i * sz + off + ys.length) by omega]
  rw [List.take_append, List.drop_append]
  simp [List.take_of_length_le, List.drop_eq_nil_of_le]

section
variable {P : Program} {w0 : World} {env : TEnv} {σ : TS}

theorem tl_iaS {sz : Nat} {x i : Operand} {xs : List (List TV)} {k : IntKind} {j : Int} {c : List TV} (hx : tO env x = some (.lst sz xs)) (hi : tO env i = some (.v (.int k j))) (h0 : 0 ≤ j) (hc : xs[j.toNat]? = some c) :
  TL P w0 env σ (.iaS sz x i) (.fp c 0) := by
 intro venv st Φ ν hs he
 obtain ⟨_, h1, h2⟩ := tO_sound he hx
 obtain ⟨_, h3, h4⟩ := tO_sound he hi
 obtain ⟨rfl, _⟩ := h4.v_inv
 cases h2.lst_inv with
 | lst _ _ a n cp vs e1 e2 e3 e4 e5 e6 e7 e8 =>
  have hlt : j.toNat < xs.length := (List.getElem?_eq_some_iff.1 hc).1
  obtain ⟨b, o, rfl, hf, hv⟩ := e7 (by intro e; subst e; simp at hlt)
  obtain ⟨r1, r2⟩ := flat_row e6 hc
  have hl : c.length = sz := e6 c (List.mem_of_getElem? hc)
  have hfl := flat_len e6
  have hvl := (cellsAt_info hv).2
  have hcell : cellsAt w0 st ⟨b, o + j.toNat * sz, none⟩ sz = some ((vs.drop (j.toNat * sz)).take sz) := cellsAt_part hv (by rw [e1]; omega)
  refine ⟨.pointer (some ⟨b, o + j.toNat * sz + 0, none⟩), ?_, .f _ _ (.fp c 0 b (o + j.toNat * sz) _ hf (by rw [hl]; exact hcell) ?_)⟩
  ·simp only [LOp.eval, h1, h3]
   rw [if_pos ⟨h0, by omega⟩, addr_add]; rfl
  ·intro q y z hy hz
   rw [← r1, List.getElem?_take] at hy
   rw [List.getElem?_take] at hz
   split at hy
   ·rename_i hq
    rw [if_pos hq, List.getElem?_drop] at hz
    rw [List.getElem?_drop] at hy
    exact e8 _ y z hy hz
   ·cases hy

theorem tl_iaSo {sz : Nat} {x i : Operand} {k o n : Nat} {c : Bool} {ki : IntKind} {j : Int} {xs : List (List TV)} {ty : TypeId} (hx : tO env x = some (.s k sz o n c)) (hi : tO env i = some (.v (.int ki j))) (h0 : 0 ≤ j ∧ j < (n : Int)) :
  TL P w0 env σ (.iaS sz x i) (.e k sz (o + j.toNat) 0) := by
 intro venv st Φ ν hs he
 obtain ⟨_, h1, h2⟩ := tO_sound he hx
 obtain ⟨_, h3, h4⟩ := tO_sound he hi
 obtain ⟨rfl, _⟩ := h4.v_inv
 rcases h2.s_inv with ⟨_, _, rfl, rfl⟩ | ⟨b, hb, rfl⟩
 ·omega
 ·refine ⟨.pointer (some ⟨b, (o + j.toNat) * sz + 0, none⟩), ?_, .e _ _ _ _ b hb⟩
  simp only [LOp.eval, h1, h3]
  rw [if_pos h0, addr_add, Nat.add_mul]; rfl

theorem tl_ldE {n : Nat} {agg : Bool} {x : Operand} {k sz i off : Nat} {xs : List (List TV)} {ty : TypeId} {c : List TV} {r : TV} (hx : tO env x = some (.e k sz i off)) (hk : σ.get k = some (.rows sz xs ty)) (hc : xs[i]? = some c) (hr : cutT agg n off c = some r) :
  TL P w0 env σ (.ld n agg x) r := by
 intro venv st Φ ν hs he
 obtain ⟨_, h1, h2⟩ := tO_sound he hx
 obtain ⟨b, hb, rfl⟩ := h2.e_inv
 rcases hs.has hk with ⟨q1, _, _, q2⟩ | ⟨b', bk, q1, q2, q3⟩
 ·rw [hb] at q1; cases q1
 ·rw [hb] at q1; cases q1
  cases bk with
  | cells vs ty' =>
   obtain ⟨_, k1, k2, k3⟩ := q3
   obtain ⟨r1, r2⟩ := flat_row k1 hc
   have hl : c.length = sz := k1 c (List.mem_of_getElem? hc)
   have hrel : RelL w0 st Φ ν c ((vs.drop (i * sz)).take sz) := by
    have := ((k3.toL (ν := ν)).drop (i * sz)).take sz
    rwa [r1] at this
   obtain ⟨m1, v, m2, m3⟩ := partOf_sound hrel hr
   refine ⟨v, ?_, m3⟩
   have e : (((vs.drop (i * sz)).take sz).drop off).take n = (vs.drop (i * sz + off)).take n := by
    rw [List.drop_take, List.drop_drop, List.take_take, Nat.min_eq_left (by omega)]
   rw [e] at m2
   have := k3.len
   simp only [LOp.eval, h1, cellsAt_mine (hs.lt hb).1 q2 (show i * sz + off + n ≤ vs.length by omega)]
   exact m2
  | _ => exact q3.elim

theorem tl_iaAp {ln sz : Nat} {x i : Operand} {k off : Nat} {ki : IntKind} {j : Int} (hx : tO env x = some (.p k off)) (hi : tO env i = some (.v (.int ki j))) (h0 : 0 ≤ j ∧ j < (ln : Int)) :
  TL P w0 env σ (.iaA ln sz x i) (.p k (off + j.toNat * sz)) := by
 intro venv st Φ ν hs he
 obtain ⟨_, h1, h2⟩ := tO_sound he hx
 obtain ⟨_, h3, h4⟩ := tO_sound he hi
 obtain ⟨rfl, _⟩ := h4.v_inv
 obtain ⟨b, hb, rfl⟩ := h2.p_inv
 exact ⟨.pointer (some ⟨b, off + j.toNat * sz, none⟩), by simp only [LOp.eval, h1, h3]; rw [if_pos h0, addr_add], .p _ _ b hb⟩
theorem tl_ldp {n : Nat} {agg : Bool} {x : Operand} {k o : Nat} {cs : List TV} {ty : TypeId} {r : TV} (hx : tO env x = some (.p k o)) (hk : σ.get k = some (.cells cs ty)) (hr : cutT agg n o cs = some r) : TL P w0 env σ (.ld n agg x) r :=
 tev_sound (by simp only [tev, hx, hk]; exact hr)
end

section
variable {P : Program}
theorem pq_bind {α β : Type} (s : Sem α) (k : α → Sem β) : pureV P (s >>= k) = (pureV P s).bind fun a => pureV P (k a) := by
 show pureV P (Sem.bind s k) = _
 induction s with
 | pure a => rfl
 | program c ih => exact ih P
 | _ => rfl
theorem pq_map {α β : Type} (s : Sem α) (f : α → β) : pureV P (f <$> s) = (pureV P s).map f := by
 rw [map_eq_pure_bind, pq_bind]
 cases pureV P s <;> rfl
theorem pq_pure {α : Type} (a : α) : pureV P (pure a : Sem α) = some a := rfl
theorem pq_underlying {t : TypeId} {d : TypeDesc} (h : P.underlying t = some d) : pureV P (underlying t) = some d := by
 simp only [underlying, pq_bind, show pureV P program = some P from rfl, Option.bind_some, h, pq_pure]

theorem pq_bound (v : Int) (k : IntKind) (m : Nat) (e : BoundsCode) (h : 0 ≤ v ∧ v ≤ m) : pureV P (Instr.sliceBound (.int k v) m e) = some v.toNat := by
 simp [Instr.sliceBound, pq_bind, asIntOf, pq_pure, h]
end

section
variable {P : Program} {w0 : World} {env : TEnv} {σ : TS}
def tOpt (env : TEnv) : Option Operand → Option (Option Int)
 | none => some none
 | some x => match tO env x with
  | some (.v (.int _ i)) => some (some i)
  | _ => none

theorem tOpt_sound {st : St} {Φ : Nat → Prop} {ν : Nu} {venv : Env} (he : TE w0 st Φ ν env venv) {x : Option Operand} {r : Option Int} (h : tOpt env x = some r) : ∃ u, evalOpt venv x = some u ∧ (r = none ∧ u = none ∨ ∃ i k, r = some i ∧ u = some (.int k i)) := by
 cases x with
 | none => cases h; exact ⟨none, rfl, .inl ⟨rfl, rfl⟩⟩
 | some x =>
  simp only [tOpt] at h
  split at h
  ·rename_i k i hx
   cases h
   obtain ⟨_, h1, h2⟩ := tO_sound he hx
   obtain ⟨rfl, _⟩ := h2.v_inv
   exact ⟨_, by simp only [evalOpt, h1, Option.map_some], .inr ⟨i, k, rfl, rfl⟩⟩
  ·cases h

theorem tl_slS {t : TypeId} {x : Operand} {lo hi : Option Operand} {s : ByteArray} {l h : Option Int} (ht : P.underlying t = some .string) (hx : tO env x = some (.v (.string s))) (hl : tOpt env lo = some l) (hh : tOpt env hi = some h)
  (hb : 0 ≤ l.getD 0 ∧ l.getD 0 ≤ h.getD s.size ∧ h.getD s.size ≤ (s.size : Int)) :
  TL P w0 env σ (.slS t x lo hi) (.v (.string (s.extract (l.getD 0).toNat (h.getD s.size).toNat))) := by
 intro venv st Φ ν hs he
 obtain ⟨_, h1, h2⟩ := tO_sound he hx
 obtain ⟨rfl, _⟩ := h2.v_inv
 obtain ⟨ul, h3, h4⟩ := tOpt_sound he hl
 obtain ⟨uh, h5, h6⟩ := tOpt_sound he hh
 refine ⟨_, ?_, .f _ _ (.v _ rfl)⟩
 simp only [LOp.eval, h1, h3, h5]
 have hf : (flatV (.string s) && ul.all flatV && uh.all flatV) = true := by
  rcases h4 with ⟨rfl, rfl⟩ | ⟨i, k, rfl, rfl⟩ <;> rcases h6 with ⟨rfl, rfl⟩ | ⟨i', k', rfl, rfl⟩ <;> rfl
 rw [if_pos hf]
 have : pureV P (Instr.slice t (.string s) ul uh none) = some (.string (s.extract (l.getD 0).toNat (h.getD s.size).toNat)) := by
  simp only [Instr.slice, pq_bind, pq_underlying ht, Option.bind_some]
  rcases h4 with ⟨rfl, rfl⟩ | ⟨i, k, rfl, rfl⟩ <;> rcases h6 with ⟨rfl, rfl⟩ | ⟨i', k', rfl, rfl⟩ <;>
   simp [Instr.sliceBounds, pq_bind, pq_pure] at hb ⊢
  ·rw [pq_map, pq_bound i' _ s.size _ (by omega)]; rfl
  ·rw [pq_map, pq_bound i _ s.size _ (by omega)]; rfl
  ·rw [pq_bound i' _ s.size _ (by omega)]
   simp only [Option.bind_some]
   rw [pq_map, pq_bound i _ i'.toNat _ (by omega)]; rfl
 simp [pureF, this, flatV, atom]

theorem tl_conv {s d : TypeId} {x : Operand} {k k' : IntKind} {i : Int} {ds : TypeDesc} (hs : P.underlying s = some ds) (hd : P.underlying d = some (.int k')) (hx : tO env x = some (.v (.int k i))) :
  TL P w0 env σ (.conv s d x) (.v (.int k' (k'.wrap i))) := by
 intro venv st Φ ν _ he
 obtain ⟨_, h1, h2⟩ := tO_sound he hx
 obtain ⟨rfl, _⟩ := h2.v_inv
 refine ⟨_, ?_, .f _ _ (.v _ rfl)⟩
 simp only [LOp.eval, h1, flatV, atom, if_true]
 have : pureV P (convert s d (.int k i)) = some (.int k' (k'.wrap i)) := by
  simp only [convert, pq_bind, pq_underlying hs, pq_underlying hd, Option.bind_some, Conv.intToInt, pq_pure]
 simp [pureF, this, flatV, atom]

theorem sliceV_frozen {st : St} {Φ : Nat → Prop} {sz : Nat} {xs : List (List TV)} {v : Value} (h : FRel w0 st Φ (.lst sz xs) v) {l h' : Nat} (h1 : l ≤ h') (h2 : h' ≤ xs.length) {ul uh : Option Value} (hl : lowOf ul = some (l : Int)) (hh : highOf xs.length uh = some (h' : Int)) :
  ∃ v', sliceV w0.heap.size sz v ul uh = some v' ∧ FRel w0 st Φ (.lst sz ((xs.drop l).take (h' - l))) v' := by
 cases h with
 | lst _ _ a n c vs e1 e2 e3 e4 e5 e6 e7 e8 =>
  subst e1
  have hcond : 0 ≤ (l : Int) ∧ (l : Int) ≤ (h' : Int) ∧ (h' : Int) ≤ (xs.length : Int) := by omega
  have hlen : ((xs.drop l).take (h' - l)).length = h' - l := by simp; omega
  have hun : ∀ x ∈ (xs.drop l).take (h' - l), x.length = sz := fun x hx => e6 x (List.mem_of_mem_drop (List.mem_of_mem_take hx))
  have hflat : ∀ (ys : List (List TV)), (∀ x ∈ ys, x.length = sz) → ∀ m, (ys.drop m).flatten = ys.flatten.drop (m * sz) ∧ (ys.take m).flatten = ys.flatten.take (m * sz) := by
   intro ys
   induction ys with
   | nil => intro _ m; simp
   | cons y ys ih =>
    intro hy m
    cases m with
    | zero => simp
    | succ m =>
     obtain ⟨i1, i2⟩ := ih (fun z hz => hy z (List.mem_cons_of_mem _ hz)) m
     have hyl := hy y (List.mem_cons_self ..)
     have e : (m + 1) * sz = y.length + m * sz := by rw [hyl, Nat.add_mul]; omega
     simp only [List.drop_succ_cons, List.take_succ_cons, List.flatten_cons, i1, i2, e]
     rw [List.drop_append, List.take_append]
     simp [List.take_of_length_le, List.drop_eq_nil_of_le]
  cases a with
  | none =>
   have hx : xs = [] := by
    rcases List.eq_nil_or_concat xs with h | h
    ·exact h
    ·obtain ⟨b, o, h, _⟩ := e7 (by rintro rfl; obtain ⟨_, _, h⟩ := h; simp at h)
     cases h
   subst hx
   simp only [List.length_nil, Nat.le_zero] at h2
   subst h2
   have : l = 0 := by omega
   subst this
   refine ⟨.slice none 0 (c - 0), ?_, .lst sz _ none 0 (c - 0) [] (by simp) (by omega) (by simp) (by simp) (by simp) (by simp) (by simp) (by simp)⟩
   simp only [sliceV, hl, hh]
   rw [if_pos (by simp)]
   rfl
  | some a0 =>
   obtain ⟨b, o, sp⟩ := a0
   have hsp : xs ≠ [] → sp = none := e5 _ rfl
   have hfin : ∀ (a1 : Addr) (c' : Nat), (a1.block < w0.heap.size → h' - l ≤ c') → (h' - l ≠ 0 → a1 = ⟨b, o + l * sz, none⟩) → FRel w0 st Φ (.lst sz ((xs.drop l).take (h' - l))) (.slice (some a1) (h' - l) c') := by
    intro a1 c' hc1 ha1
    have hne0 : ((xs.drop l).take (h' - l)) ≠ [] → h' - l ≠ 0 := fun hne e => by apply hne; rw [e]; simp
    refine .lst sz _ (some a1) (h' - l) c' ((vs.drop (l * sz)).take ((h' - l) * sz)) hlen.symm (by omega) (fun a0 ha hb => by cases ha; exact hc1 hb) (fun h => by cases h) (fun a0 ha hne => by cases ha; rw [ha1 (hne0 hne)]) hun (fun hne => ?_) ?_
    ·have hne' : h' - l ≠ 0 := by intro e; apply hne; rw [e]; simp
     obtain ⟨b', o', k1, k2, k3⟩ := e7 (by rintro rfl; simp at hne)
     cases k1
     refine ⟨b, o + l * sz, by rw [ha1 hne'], k2, ?_⟩
     refine cellsAt_part k3 ?_
     rw [← Nat.add_mul]; exact Nat.mul_le_mul_right _ (by omega)
    ·intro j y z hy hz
     rw [(hflat _ (fun x hx => e6 x (List.mem_of_mem_drop hx)) _).2, (hflat xs e6 _).1, List.getElem?_take] at hy
     rw [List.getElem?_take] at hz
     split at hy
     ·rename_i hj
      rw [if_pos hj, List.getElem?_drop] at hz
      rw [List.getElem?_drop] at hy
      exact e8 _ y z hy hz
     ·cases hy
   simp only [sliceV, hl, hh]
   rw [if_pos hcond]
   simp only [Int.toNat_natCast]
   by_cases hb : b < w0.heap.size
   ·have hnc := e3 _ rfl hb
    simp only [if_pos hb, if_pos hnc]
    refine ⟨_, rfl, ?_⟩
    by_cases hcl : c = l
    ·rw [if_pos hcl]
     exact hfin _ _ (fun _ => by omega) (fun h => by omega)
    ·rw [if_neg hcl]
     exact hfin _ _ (fun _ => by omega) (fun hne => by rw [hsp (by rintro rfl; simp at h2; omega), addr_add])
   ·simp only [if_neg hb]
    exact ⟨_, rfl, hfin _ _ (fun h => absurd h hb) fun _ => rfl⟩

theorem tl_slc {sz : Nat} {x : Operand} {lo hi : Option Operand} {xs : List (List TV)} {l h : Option Int} (hx : tO env x = some (.lst sz xs)) (hl : tOpt env lo = some l) (hh : tOpt env hi = some h)
  (hb : 0 ≤ l.getD 0 ∧ l.getD 0 ≤ h.getD xs.length ∧ h.getD xs.length ≤ (xs.length : Int)) {r : List (List TV)} (hr : (xs.drop (l.getD 0).toNat).take ((h.getD xs.length).toNat - (l.getD 0).toNat) = r) :
  TL P w0 env σ (.slc sz x lo hi) (.lst sz r) := by
 intro venv st Φ ν hs he
 obtain ⟨v, h1, h2⟩ := tO_sound he hx
 obtain ⟨ul, h3, h4⟩ := tOpt_sound he hl
 obtain ⟨uh, h5, h6⟩ := tOpt_sound he hh
 obtain ⟨v', k1, k2⟩ := sliceV_frozen h2.lst_inv (l := (l.getD 0).toNat) (h' := (h.getD xs.length).toNat) (by omega) (by omega) (ul := ul) (uh := uh)
  (by rcases h4 with ⟨rfl, rfl⟩ | ⟨i, k, rfl, rfl⟩ <;> simp [lowOf] at hb ⊢; omega) (by rcases h6 with ⟨rfl, rfl⟩ | ⟨i, k, rfl, rfl⟩ <;> simp [highOf] at hb ⊢; omega)
 subst hr
 refine ⟨v', ?_, .f _ _ k2⟩
 simp only [LOp.eval, h1, h3, h5]
 exact k1
end
end Go.Proofs.YtnphhelbianjpaaGreatDoor.V
