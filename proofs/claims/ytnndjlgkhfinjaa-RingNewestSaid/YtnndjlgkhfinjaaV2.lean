/-
  The abstract semantics 'V', part 2: operations that change nothing ('light'): what they give, and that the model's operation gives the like.
-/
import Derived.Test.YtnndjlgkhfinjaaV1
set_option linter.all false
set_option linter.unusedSimpArgs false
set_option linter.unusedVariables false
set_option linter.unnecessarySimpa false
namespace Go.Proofs.Ytnndjlgkhfinjaa.V
open Go Go.RowKit

/-! ### Runs that look at no memory -/

def pureV (P : Program) {α : Type} : Sem α → Option α
  | .pure a => some a
  | .program k => pureV P (k P)
  | _ => none

theorem pureV_run {P : Program} {α : Type} {s : Sem α} {a : α} (h : pureV P s = some a) (w : World) : s.run P w = .ok a w := by
  induction s with
  | pure b => simp only [pureV, Option.some.injEq] at h; subst h; rfl
  | program k ih => exact ih P h
  | _ => simp [pureV] at h

/-- .. and give a value without addresses. -/
def pureF (P : Program) (s : Sem Value) : Option Value := (pureV P s).bind fun v => if flatV v then some v else none

theorem pureF_run {P : Program} {s : Sem Value} {v : Value} (h : pureF P s = some v) : (∀ w, s.run P w = .ok v w) ∧ flatV v = true := by
  unfold pureF at h
  cases hp : pureV P s with
  | none => simp [hp] at h
  | some u =>
    simp only [hp, Option.bind_some] at h
    split at h
    · rename_i hf
      cases h
      exact ⟨fun w => pureV_run hp w, hf⟩
    · cases h

/-! ### Cells -/

def inV (n0 : Nat) : Value → Bool
  | .pointer (some a) => a.block < n0
  | .slice (some a) _ _ => a.block < n0
  | v => atom v

/-- n cells from an address on. -/
def cellsAt (w0 : World) (st : St) (a : Addr) (n : Nat) : Option (List Value) :=
  match cellsOf w0 st a.block with
  | some cs =>
    if a.off + n ≤ cs.length ∧ a.spot = none then
      if a.block < w0.heap.size then
        if ((cs.drop a.off).take n).all (inV w0.heap.size) then some ((cs.drop a.off).take n) else none
      else some ((cs.drop a.off).take n)
    else none
  | none => none

section
variable {P : Program} {w0 : World}

theorem inV_rel {n0 : Nat} {μ : Mp} {v : Value} (h : inV n0 v = true) : VRel P n0 μ v v ∧ v.oneCell' = true := by
  cases v with
  | pointer a =>
    cases a with
    | none => exact ⟨.atom _ rfl, rfl⟩
    | some a => exact ⟨.oldPtr a (by simpa [inV] using h), rfl⟩
  | slice a n c =>
    cases a with
    | none => exact ⟨.atom _ rfl, rfl⟩
    | some a => exact ⟨.oldSlice a n c (by simpa [inV] using h), rfl⟩
  | agg cs => simp [inV, V.atom] at h
  | tuple cs => simp [inV, V.atom] at h
  | _ => exact ⟨.atom _ h, rfl⟩

theorem addr_add (b o n : Nat) : (⟨b, o, none⟩ : Addr).add n = ⟨b, o + n, none⟩ := by
  unfold Addr.add; split <;> simp_all

/-- What is read from an address: the world's cells are like it. -/
theorem cellsAt_sound {μ : Mp} {st : St} {w : World} (hs : Sim P w0 μ st w) {a : Addr} {v' : Value} (hr : VRel P w0.heap.size μ (.pointer (some a)) v')
    {n : Nat} {cs : List Value} (hc : cellsAt w0 st a n = some cs) :
    ∃ (a' : Addr) (cs' : List Value), v' = .pointer (some a') ∧ cs.length = n ∧ cs'.length = n ∧ (∀ (j : Nat) (u : Value), cs'[j]? = some u → w.cell? (a'.add j) = some u) ∧
      (∀ (j : Nat) (x y : Value), cs[j]? = some x → cs'[j]? = some y → VRel P w0.heap.size μ x y) ∧ ∀ v ∈ cs, v.oneCell' = true := by
  unfold cellsAt cellsOf at hc
  rcases hr.ptr_inv with ⟨rfl, hb⟩ | ⟨m, hm, hsp, rfl⟩
  · rw [if_pos hb] at hc
    cases hh : w0.heap[a.block]? with
    | none => simp [hh] at hc
    | some o =>
      cases o with
      | cells c ty fr =>
        simp only [hh] at hc
        split at hc
        · rename_i hl
          obtain ⟨hl, hspot⟩ := hl
          split at hc
          · rename_i hall
            cases hc
            have hlen : ((c.toList.drop a.off).take n).length = n := by simp at hl ⊢; omega
            refine ⟨a, _, rfl, hlen, hlen, ?_, ?_, ?_⟩
            · intro j u hj
              have hblk : w.heap[a.block]? = some (.cells c ty fr) := by rw [hs.old.block a.block hb]; exact hh
              obtain ⟨b, o, s⟩ := a
              simp only at hspot hblk hj hl hb
              subst hspot
              rw [addr_add]
              simp only [World.cell?, hblk, Option.isSome_none, Bool.false_eq_true, if_false]
              rw [List.getElem?_take] at hj
              split at hj
              · simpa using hj
              · cases hj
            · intro j x y hx hy
              rw [hx] at hy; cases hy
              exact (inV_rel (List.all_eq_true.1 hall x (List.mem_of_getElem? hx))).1
            · intro x hx
              exact (inV_rel (P := P) (μ := μ) (List.all_eq_true.1 hall x hx)).2
          · cases hc
        · cases hc
      | _ => simp [hh] at hc
  · have hlo := hs.lo _ _ hm
    have hnb : ¬ a.block < w0.heap.size := by omega
    simp only [if_neg hnb] at hc
    cases hh : st.blk a.block with
    | none => simp [hh] at hc
    | some o =>
      cases o with
      | cells c ty =>
        simp only [hh] at hc
        split at hc
        · rename_i hl
          cases hc
          obtain ⟨hty, arr, harr, hsz, hfit, hcell, hone⟩ := hs.cells _ _ _ _ hh hm
          have hlen : ((c.drop a.off).take n).length = n := by simp; omega
          have key : ∀ j, j < n → ∃ y, arr[m.base + (a.off + j)]? = some y := by
            intro j hj
            have : m.base + (a.off + j) < arr.size := by omega
            exact ⟨arr[m.base + (a.off + j)], by simp [this]⟩
          refine ⟨⟨m.blk, m.base + a.off, none⟩, (arr.toList.drop (m.base + a.off)).take n, rfl, hlen, ?_, ?_, ?_, ?_⟩
          · simp; omega
          · intro j u hj
            rw [addr_add]
            simp only [World.cell?, harr, Option.isSome_none, Bool.false_eq_true, if_false]
            rw [List.getElem?_take] at hj
            split at hj
            · simpa using hj
            · cases hj
          · intro j x y hx hy
            rw [List.getElem?_take] at hx hy
            split at hx
            · rename_i hjn
              rw [if_pos hjn] at hy
              rw [List.getElem?_drop] at hx hy
              obtain ⟨y', hy', hrel⟩ := hcell _ _ hx
              simp only [Array.getElem?_toList] at hy
              rw [show m.base + a.off + j = m.base + (a.off + j) by omega] at hy
              rw [hy'] at hy; cases hy
              exact hrel
            · cases hx
          · intro x hx
            exact hone x (List.mem_of_mem_drop (List.mem_of_mem_take hx))
        · cases hc
      | _ => simp [hh] at hc

/-! ### The light operations -/

inductive LOp where
  | mov (x : Operand)
  | pick (c a b : Operand)
  | bin (op : BinOp) (t : TypeId) (x y : Operand)
  | eqp (neg : Bool) (x y : Operand)
  | un (op : UnOp) (x : Operand)
  | conv (src dst : TypeId) (x : Operand)
  | idxS (t : TypeId) (x i : Operand)
  | slS (t : TypeId) (x : Operand) (lo hi : Option Operand)
  | slc (sz : Nat) (x : Operand) (lo hi : Option Operand)
  | slA (len sz : Nat) (x : Operand)
  | len (x : Operand)
  | lenS (x : Operand)
  | nilchk (x : Operand)
  | fa (off : Nat) (x : Operand)
  | iaS (sz : Nat) (x i : Operand)
  | iaA (len sz : Nat) (x i : Operand)
  | ld (n : Nat) (agg : Bool) (x : Operand)
  | fld (off n : Nat) (agg : Bool) (x : Operand)
  | ext (k : Nat) (x : Operand)
  | bld (zero : List Value) (places : List (Nat × Nat)) (parts : List (Nat × Operand))
  | mkI (t : TypeId) (x : Operand)
  | asrt (asserted : TypeId) (zero : Value) (x : Operand)
  | look (str : Bool) (zero : Value) (ok : Bool) (x i : Operand)
  | b2s (x : Operand)
  | min2 (x y : Operand)

/-- The cells of a part: one cell, or an aggregate of several. -/
def partOf (agg : Bool) (cs : List Value) : Option Value :=
  if agg then some (.agg cs.toArray) else match cs with
    | [v] => some v
    | _ => none

def cellsL : Value → List Value
  | .agg cs => cs.toList
  | v => [v]

/-- The cells of a value that can be stored. -/
def cellsQ : Value → Option (List Value)
  | .agg cs => some cs.toList
  | .tuple _ => none
  | v => some [v]

def fillL (places : List (Nat × Nat)) (cells : List Value) : List (Nat × List Value) → Option (List Value)
  | [] => some cells
  | (i, v) :: rest =>
    match places[i]? with
    | none => none
    | some (off, size) => if v.length = size ∧ off + size ≤ cells.length then fillL places (cells.take off ++ v ++ cells.drop (off + size)) rest else none

def lowOf : Option Value → Option Int
  | none => some 0
  | some (.int _ l) => some l
  | _ => none

def highOf (n : Nat) : Option Value → Option Int
  | none => some n
  | some (.int _ l) => some l
  | _ => none

def sliceV (n0 sz : Nat) (v : Value) (lo hi : Option Value) : Option Value :=
  match v, lowOf lo with
  | .slice a n c, some l =>
    match highOf n hi with
    | some h =>
      if 0 ≤ l ∧ l ≤ h ∧ h ≤ n then
        match a with
        | none => if n ≤ c then some (.slice none (h.toNat - l.toNat) (c - l.toNat)) else none
        | some a =>
          if a.block < n0 then
            if n ≤ c then some (.slice (some (if c = l.toNat then a else a.add (l.toNat * sz))) (h.toNat - l.toNat) (c - l.toNat)) else none
          else some (.slice (some ⟨a.block, a.off + l.toNat * sz, none⟩) (h.toNat - l.toNat) (if c = sz then sz else 0))
      else none
    | none => none
  | _, _ => none

/-- Keys (texts, or whole numbers) that are held against each other at once. -/
def keyCmp (str : Bool) : Value → Value → Option Bool
  | .int j a, .int k b => if str = false ∧ j = k then some (a == b) else none
  | .string a, .string b => if str = true then some (a == b) else none
  | _, _ => none

def findD (str : Bool) (k : Value) : List (Value × Value) → Nat → Option (Option (Nat × Value))
  | [], _ => some none
  | e :: es, i => match keyCmp str k e.1 with
    | some true => some (some (i, e.2))
    | some false => findD str k es (i + 1)
    | none => none

def evalOpt (env : Env) : Option Operand → Option (Option Value)
  | none => some none
  | some x => (evalO env x).map some

def evalParts (env : Env) : List (Nat × Operand) → Option (List (Nat × List Value))
  | [] => some []
  | (i, x) :: r => match (evalO env x).bind cellsQ, evalParts env r with
    | some v, some l => some ((i, v) :: l)
    | _, _ => none

section
variable (P : Program) (w0 : World)
def LOp.eval (env : Env) (st : St) : LOp → Option Value
  | .mov x => evalO env x
  | .pick c a b => match evalO env c with
    | some (.bool t) => if t then evalO env a else evalO env b
    | _ => none
  | .bin op t x y => match evalO env x, evalO env y with
    | some a, some b => if flatV a && flatV b then pureF P (do eqGuard op t x y a b; binOp op t a b) else none
    | _, _ => none
  | .eqp neg x y => match evalO env x, evalO env y with
    | some (.pointer a), some (.pointer b) => if a.isSome && b.isSome then none else some (.bool (neg ^^ (a.isNone && b.isNone)))
    | _, _ => none
  | .un op x => match evalO env x with
    | some a => if flatV a then pureF P (Op.unary op a) else none
    | none => none
  | .conv s d x => match evalO env x with
    | some a => if flatV a then pureF P (convert s d a) else none
    | none => none
  | .idxS t x i => match evalO env x, evalO env i with
    | some a, some b => if flatV a && flatV b then pureF P (Instr.index t a b) else none
    | _, _ => none
  | .slS t x lo hi => match evalO env x, evalOpt env lo, evalOpt env hi with
    | some a, some l, some h => if flatV a && (l.all flatV) && (h.all flatV) then pureF P (Instr.slice t a l h none) else none
    | _, _, _ => none
  | .slc sz x lo hi => match evalO env x, evalOpt env lo, evalOpt env hi with
    | some a, some l, some h => sliceV w0.heap.size sz a l h
    | _, _, _ => none
  | .slA ln _ x => match evalO env x with
    | some (.pointer (some a)) => if a.block < w0.heap.size then none else some (.slice (some a) ln 0)
    | _ => none
  | .len x => match evalO env x with
    | some (.slice _ n _) => some (.int .i64 n)
    | _ => none
  | .lenS x => match evalO env x with
    | some (.string s) => some (.int .i64 s.size)
    | _ => none
  | .nilchk x => match evalO env x with
    | some (.pointer (some a)) => some (.pointer (some a))
    | _ => none
  | .fa off x => match evalO env x with
    | some (.pointer (some a)) => some (.pointer (some (a.add off)))
    | _ => none
  | .iaS sz x i => match evalO env x, evalO env i with
    | some (.slice (some a) n _), some (.int _ i) => if 0 ≤ i ∧ i < n then some (.pointer (some (a.add (i.toNat * sz)))) else none
    | _, _ => none
  | .iaA ln sz x i => match evalO env x, evalO env i with
    | some (.pointer (some a)), some (.int _ i) => if 0 ≤ i ∧ i < ln then some (.pointer (some (a.add (i.toNat * sz)))) else none
    | _, _ => none
  | .ld n agg x => match evalO env x with
    | some (.pointer (some a)) => match cellsAt w0 st a n with
      | some cs => partOf agg cs
      | none => none
    | _ => none
  | .fld off n agg x => match evalO env x with
    | some (.agg cs) => if off + n ≤ cs.size then partOf agg ((cs.toList.drop off).take n) else none
    | _ => none
  | .ext k x => match evalO env x with
    | some (.tuple vs) => vs[k]?
    | _ => none
  | .bld zero places parts => match evalParts env parts with
    | some l => (fillL places zero l).map fun cs => .agg cs.toArray
    | none => none
  | .mkI t x => (evalO env x).map (.iface t)
  | .asrt t zero x => match evalO env x with
    | some (.iface u v) => if u = t then some (.tuple #[v, .bool true]) else some (.tuple #[zero, .bool false])
    | some .nilIface => some (.tuple #[zero, .bool false])
    | _ => none
  | .look str zero ok x i => match evalO env x, evalO env i with
    | some m, some k =>
      match (match m with | .map none => some [] | .map (some b) => (match st.blk b with | some (.map es) => some es | _ => none) | _ => none) with
      | some es => match findD str k es 0 with
        | some (some (_, v)) => some (if ok then .tuple #[v, .bool true] else v)
        | some none => some (if ok then .tuple #[zero, .bool false] else zero)
        | none => none
      | none => none
    | _, _ => none
  | .b2s x => match evalO env x with
    | some (.slice none _ _) => some (.string .empty)
    | some (.slice (some a) n _) => match cellsAt w0 st a n with
      | some cs => if cs.all (fun c => match c with | .int .u8 _ => true | _ => false) then
          some (.string ⟨(cs.map fun c => match c with | .int _ q => UInt8.ofNat q.toNat | _ => 0).toArray⟩) else none
      | none => none
    | _ => none
  | .min2 x y => match evalO env x, evalO env y with
    | some (.int k a), some (.int _ b) => some (.int k (if b < a then b else a))
    | _, _ => none

def aggD : TypeDesc → Bool
  | .struct _ | .array _ _ => true
  | _ => false

def tyAgg (t : TypeId) : Option (Bool × Nat) :=
  match P.underlying t, P.info? t with
  | some d, some i => some (aggD d, i.size)
  | _, _ => none

def fieldTab (fs : Array Field) : Option (List (Nat × Nat)) :=
  fs.toList.mapM fun f => (P.info? f.type).map fun i => (f.offset, i.size)

def zeroOf (t : TypeId) : Option Value := (P.info? t).bind (·.zero)

def copB (b : Builtin) (args : List Operand) (tys : List TypeId) : Option LOp :=
  match b with
  | .len => match args, tys with
    | [x], [t] => (match P.underlying t with
      | some (.slice _) => some (.len x)
      | some .string => some (.lenS x)
      | _ => none)
    | _, _ => none
  | .min => match args with
    | [x, y] => some (.min2 x y)
    | _ => none
  | _ => none

def copL : Op → Option LOp
  | .move x => some (.mov x)
  | .assign x => some (.mov x)
  | .pick c a b => some (.pick c a b)
  | .binOp op t x y _ => match P.underlying t with
    | some (.pointer _) => (match op with | .eql => some (.eqp false x y) | .neq => some (.eqp true x y) | _ => none)
    | some _ => some (.bin op t x y)
    | none => none
  | .unOp op _ x => some (.un op x)
  | .convert s d x => match P.underlying s, P.underlying d with
    | some (.slice _), some .string => (match P.underlying s with
      | some (.slice e) => (match P.underlying e with | some (.int .u8) => some (.b2s x) | _ => none)
      | _ => none)
    | some (.int _), some _ => some (.conv s d x)
    | some .string, some .string => some (.conv s d x)
    | _, _ => none
  | .index t x i => some (.idxS t x i)
  | .slice t x lo hi none => match P.underlying t with
    | some .string => some (.slS t x lo hi)
    | some (.slice e) => (P.info? e).map fun i => .slc i.size x lo hi
    | some (.array n e) => (match lo, hi with | none, none => (P.info? e).map fun i => .slA n i.size x | _, _ => none)
    | _ => none
  | .call c => match c.callee with
    | .builtin b => copB P b c.args.toList c.argTypes.toList
    | _ => none
  | .nilCheck x => some (.nilchk x)
  | .fieldAddr s x f => match P.underlying s with
    | some (.struct fs) => (match fs[f]? with
      | some fd => (match P.info? fd.type with
        | some i => if i.size = 0 then none else some (.fa fd.offset x)
        | none => none)
      | none => none)
    | _ => none
  | .indexAddr t x i => match P.underlying t with
    | some (.slice e) => (P.info? e).map fun j => .iaS j.size x i
    | some (.array n e) => (P.info? e).map fun j => .iaA n j.size x i
    | _ => none
  | .load t x => (tyAgg P t).map fun (b, n) => .ld (if b then n else 1) b x
  | .field t x f => match P.underlying t with
    | some (.struct fs) => (match fs[f]? with
      | some fd => (tyAgg P fd.type).map fun (b, n) => .fld fd.offset (if b then n else 1) b x
      | none => none)
    | _ => none
  | .extract x k => some (.ext k x)
  | .build t parts => match P.underlying t with
    | some (.struct fs) => (match fieldTab P fs, zeroOf P t with
      | some tab, some (.agg cs) => if flatV (.agg cs) then some (.bld cs.toList tab parts.toList) else none
      | _, _ => none)
    | _ => none
  | .makeInterface t x => match P.underlying t with
    | some (.interface _) => none
    | some _ => some (.mkI t x)
    | none => none
  | .typeAssert x _ t true => match P.underlying t with
    | some (.interface _) => none
    | some _ => (match zeroOf P t with | some z => if flatV z then some (.asrt t z x) else none | none => none)
    | none => none
  | .lookup t x i ok => match P.underlying t with
    | some (.map k e) => (match P.underlying k, zeroOf P e with
      | some .string, some z => if flatV z then some (.look true z ok x i) else none
      | some (.int _), some z => if flatV z then some (.look false z ok x i) else none
      | _, _ => none)
    | _ => none
  | _ => none
end
end
end Go.Proofs.Ytnndjlgkhfinjaa.V
