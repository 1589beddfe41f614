/-
  The abstract semantics 'V', part 20: regions by rewriting: what stands behind an operation is not looked at before its value is known.
-/
import Derived.Test.YtnndjlgkhfinjaaV19
set_option linter.all false
set_option linter.unusedSimpArgs false
set_option linter.unusedVariables false
set_option linter.unnecessarySimpa false
namespace Go.Proofs.Ytnndjlgkhfinjaa.V
open Go Go.RowKit

section
variable (P : Program) (w0 : World)
def goV (x : Option Value) (d : Nat) (rest : List ROp) (K : Env → St → Prop) (env : Env) (st : St) : Prop := ∃ v, x = some v ∧ wpR P w0 rest K ((d, v) :: env) st
def goA (x : Option (Blk × (Nat → Value))) (d : Nat) (rest : List ROp) (K : Env → St → Prop) (env : Env) (st : St) : Prop := ∃ v, x = some v ∧ wpR P w0 rest K ((d, v.2 st.next) :: env) (st.alloc v.1)
def goH (x : Option (Value × St)) (d : Option Nat) (rest : List ROp) (K : Env → St → Prop) (env : Env) : Prop := ∃ v, x = some v ∧ wpR P w0 rest K (putE d v.1 env) v.2
/-- .. where reads were put ahead of it. -/
def goHk (x : Option (Value × St)) (ks : List LOp) (d : Option Nat) (rest : List ROp) (K : Env → St → Prop) (env : Env) (st : St) : Prop :=
  ∃ v, x = some v ∧ (∀ l ∈ ks, (l.eval P w0 env st).isSome = true ∧ l.eval P w0 env v.2 = l.eval P w0 env st) ∧ wpR P w0 rest K (putE d v.1 env) v.2
def goC (f : FuncId) (x : Option (List Value)) (q : Bool) (d : Nat) (rest : List ROp) (K : Env → St → Prop) (env : Env) (st : St) : Prop :=
  ∃ vs, x = some vs ∧ DCalls P w0 f vs st fun v st' => (q = true → st.le st') ∧ wpR P w0 rest K ((d, v) :: env) st'
def goB (x : Option Bool) (r : ROp) (rest : List ROp) (K : Env → St → Prop) (env : Env) (st : St) : Prop := guardV x (wpR P w0 (r :: rest) K env st) (wpR P w0 rest K (putE r.dst undef env) st)
end

section
variable {P : Program} {w0 : World} {K : Env → St → Prop} {env : Env} {st : St} {rest : List ROp} {d : Nat} {q : Bool} {ks : List LOp}

theorem goV_some (v : Value) : goV P w0 (some v) d rest K env st = wpR P w0 rest K ((d, v) :: env) st := propext ⟨fun ⟨_, h, hk⟩ => by cases h; exact hk, fun h => ⟨v, rfl, h⟩⟩
theorem goV_of {x : Option Value} {v : Value} (h : x = some v) (hk : wpR P w0 rest K ((d, v) :: env) st) : goV P w0 x d rest K env st := ⟨v, h, hk⟩
theorem goA_some (b : Blk) (m : Nat → Value) : goA P w0 (some (b, m)) d rest K env st = wpR P w0 rest K ((d, m st.next) :: env) (st.alloc b) := propext ⟨fun ⟨_, h, hk⟩ => by cases h; exact hk, fun h => ⟨(b, m), rfl, h⟩⟩
theorem goH_some (v : Value) (s : St) (d : Option Nat) : goH P w0 (some (v, s)) d rest K env = wpR P w0 rest K (putE d v env) s := propext ⟨fun ⟨_, h, hk⟩ => by cases h; exact hk, fun h => ⟨(v, s), rfl, h⟩⟩
theorem goH_of {x : Option (Value × St)} {v : Value} {s : St} {d : Option Nat} (h : x = some (v, s)) (hk : wpR P w0 rest K (putE d v env) s) : goH P w0 x d rest K env := ⟨(v, s), h, hk⟩
theorem goHk_of {x : Option (Value × St)} {v : Value} {s : St} {d : Option Nat} (h : x = some (v, s)) (h1 : ∀ l ∈ ks, (l.eval P w0 env st).isSome = true ∧ l.eval P w0 env s = l.eval P w0 env st) (hk : wpR P w0 rest K (putE d v env) s) : goHk P w0 x ks d rest K env st := ⟨(v, s), h, h1, hk⟩
theorem goB_true (r : ROp) : goB P w0 (some true) r rest K env st = wpR P w0 (r :: rest) K env st := guardV_true _ _
theorem goB_false (r : ROp) : goB P w0 (some false) r rest K env st = wpR P w0 rest K (putE r.dst undef env) st := guardV_false _ _
theorem goB_of {t : Bool} {r : ROp} (h1 : t = true → wpR P w0 (r :: rest) K env st) (h2 : t = false → wpR P w0 rest K (putE r.dst undef env) st) : goB P w0 (some t) r rest K env st := ⟨h1, h2⟩

theorem call_of {f : FuncId} {vs : List Value} {Q : Value → St → Prop} (h : DCalls P w0 f vs st Q) (hk : ∀ v st', Q v st' → Ok w0 st' → st.next ≤ st'.next → wpR P w0 rest K ((d, v) :: env) st') : goC P w0 f (some vs) false d rest K env st :=
  ⟨vs, rfl, h.mono' fun v st' hq ho hn => ⟨fun h => (by cases h), hk v st' hq ho hn⟩⟩
theorem call_q {f : FuncId} {vs : List Value} {Q : Value → St → Prop} (h : DCalls P w0 f vs st Q) (hk : ∀ v st', Q v st' → Ok w0 st' → st.next ≤ st'.next → st.le st' ∧ wpR P w0 rest K ((d, v) :: env) st') : goC P w0 f (some vs) true d rest K env st :=
  ⟨vs, rfl, h.mono' fun v st' hq ho hn => ⟨fun _ => (hk v st' hq ho hn).1, (hk v st' hq ho hn).2⟩⟩
/-- A call that gives a value and leaves all as it is. -/
theorem call_P {f : FuncId} {vs : List Value} {X : Value} (h : DCalls P w0 f vs st fun v st' => v = X ∧ st = st') (hk : wpR P w0 rest K ((d, X) :: env) st) : goC P w0 f (some vs) q d rest K env st :=
  ⟨vs, rfl, h.mono' fun v st' hq _ _ => by obtain ⟨rfl, rfl⟩ := hq; exact ⟨fun _ => St.le.refl _, hk⟩⟩
/-- A call that leaves what was there, and gives a value. -/
theorem call_L {f : FuncId} {vs : List Value} {X : Value} (h : DCalls P w0 f vs st fun v st' => v = X ∧ st.le st') (hk : ∀ st', st.le st' → Ok w0 st' → wpR P w0 rest K ((d, X) :: env) st') : goC P w0 f (some vs) q d rest K env st :=
  ⟨vs, rfl, h.mono' fun v st' hq ho _ => by obtain ⟨rfl, hl⟩ := hq; exact ⟨fun _ => hl, hk _ hl ho⟩⟩

theorem wr_id {rs : List ROp} (h : wpR P w0 rs K env st) : wpR P w0 rs K env st := h
theorem rw_nil : wpR P w0 [] K env st = K env st := rfl
theorem rw_light (l : LOp) : wpR P w0 (⟨some d, none, .light l, q, ks⟩ :: rest) K env st = goV P w0 (l.eval P w0 env st) d rest K env st := by
  apply propext
  simp only [wpR, guardOf, guardV_true, COp.step, putE, goV]
  cases h : l.eval P w0 env st <;> simp
theorem rw_alloc (l : AOp) : wpR P w0 (⟨some d, none, .alloc l, q, ks⟩ :: rest) K env st = goA P w0 (l.eval env) d rest K env st := by
  apply propext
  simp only [wpR, guardOf, guardV_true, COp.step, putE, goA]
  cases h : l.eval env <;> simp
theorem rw_heavy (l : HOp) (d : Option Nat) : wpR P w0 (⟨d, none, .heavy l, q, []⟩ :: rest) K env st = goH P w0 (l.eval w0 env st) d rest K env := by
  apply propext
  simp only [wpR, guardOf, guardV_true, COp.step, goH]
  cases h : l.eval w0 env st with
  | none => simp
  | some v => obtain ⟨v, s⟩ := v; simp
theorem rw_heavyk (l : HOp) (d : Option Nat) (k0 : LOp) : wpR P w0 (⟨d, none, .heavy l, q, k0 :: ks⟩ :: rest) K env st = goHk P w0 (l.eval w0 env st) (k0 :: ks) d rest K env st := by
  apply propext
  simp only [wpR, guardOf, guardV_true, COp.step, goHk]
  cases h : l.eval w0 env st with
  | none => simp
  | some v => obtain ⟨v, s⟩ := v; simp
theorem rw_call (f : FuncId) (args : List Operand) : wpR P w0 (⟨some d, none, .call f args, q, ks⟩ :: rest) K env st = goC P w0 f (evalArgs env args) q d rest K env st := by
  apply propext
  simp only [wpR, guardOf, guardV_true, COp.step, putE, goC]
  cases h : evalArgs env args <;> simp
theorem rw_guard (t : Nat) (w : Bool) (d : Option Nat) (op : COp) : wpR P w0 (⟨d, some (t, w), op, q, ks⟩ :: rest) K env st = goB P w0 (guardOf env (some (t, w))) ⟨d, none, op, q, ks⟩ rest K env st := by
  apply propext
  simp only [wpR, guardOf, goB, guardV_true]

/-- What stands behind a region. -/
structure RegK (Q : Exit → Env → St → Prop) (K : Env → St → Prop) : Prop where
  h : ∀ env st, Q .normal env st → K env st
theorem use_R {Q : Exit → Env → St → Prop} {K : Env → St → Prop} {env : Env} {st : St} (hK : RegK Q K) (h : Q .normal env st) : K env st := hK.h _ _ h
theorem wq_reg' {rs : List ROp} {Q : Exit → Env → St → Prop} {env : Env} {st : St} (h : ∀ K, RegK Q K → wpR P w0 rs K env st) : wpS P w0 (.reg rs) Q env st := h _ ⟨fun _ _ h => h⟩

/-! ### Operands -/
theorem ev_tmp (t : Nat) : evalO env (.tmp t) = env.lookup t := rfl
theorem ev_const {v : Value} (h : flatV v = true) : evalO env (.const v) = some v := by simp only [evalO, h, if_true]
theorem ev_cint (k : IntKind) (i : Int) : evalO env (.const (.int k i)) = some (.int k i) := rfl
theorem ev_cbool (b : Bool) : evalO env (.const (.bool b)) = some (.bool b) := rfl
theorem ev_cstr (b : ByteArray) : evalO env (.const (.string b)) = some (.string b) := rfl
theorem ev_cnil : evalO env (.const (.pointer none)) = some (.pointer none) := rfl
theorem ev_cslice (a b : Nat) : evalO env (.const (.slice none a b)) = some (.slice none a b) := rfl
theorem ev_cmap : evalO env (.const (.map none)) = some (.map none) := rfl

theorem ea_nil : evalArgs env [] = some [] := rfl
theorem ea_cons (x : Operand) (r : List Operand) : evalArgs env (x :: r) = (match evalO env x, evalArgs env r with | some v, some l => some (v :: l) | _, _ => none) := rfl
theorem ep_nil : evalParts env [] = some [] := rfl
theorem ep_cons (i : Nat) (x : Operand) (r : List (Nat × Operand)) : evalParts env ((i, x) :: r) = (match (evalO env x).bind cellsQ, evalParts env r with | some v, some l => some ((i, v) :: l) | _, _ => none) := rfl

/-! ### Cells -/
def ownCells (b : Option Blk) (o n : Nat) : Option (List Value) :=
  match b with
  | some (.cells cs _) => if o + n ≤ cs.length then some ((cs.drop o).take n) else none
  | _ => none
theorem cells_own {b o n : Nat} (h : ¬ b < w0.heap.size) : cellsAt w0 st ⟨b, o, none⟩ n = ownCells (st.blk b) o n := by
  simp only [cellsAt, cellsOf, if_neg h, ownCells]
  cases st.blk b with
  | none => rfl
  | some bk => cases bk <;> simp
theorem own_cons (v : Value) (cs : List Value) (ty : TypeId) (o n : Nat) : ownCells (some (.cells (v :: cs) ty)) o n = if o + n ≤ (v :: cs).length then some (((v :: cs).drop o).take n) else none := rfl
/-- What a block is when cells of it are written. -/
def putC (b : Option Blk) (o n : Nat) (vs : List Value) : Option Blk :=
  match b with
  | some (.cells cs ty) => if o + n ≤ cs.length then some (.cells (cs.take o ++ vs ++ cs.drop (o + n)) ty) else none
  | _ => none
theorem put_cons (v : Value) (cs vs : List Value) (ty : TypeId) (o n : Nat) : putC (some (.cells (v :: cs) ty)) o n vs = if o + n ≤ (v :: cs).length then some (.cells ((v :: cs).take o ++ vs ++ (v :: cs).drop (o + n)) ty) else none := rfl
theorem put_elem {α : Type} {f : α → List Value} {sz : Nat} (hf : ∀ x, (f x).length = sz) {xs : List α} {i : Nat} (y : α) (h : i < xs.length) (ty : TypeId) : putC (some (.cells (xs.flatMap f) ty)) (i * sz) sz (f y) = some (.cells ((xs.set i y).flatMap f) ty) := by
  simp only [putC, if_pos (fm_fit hf h), fm_set hf y h]
theorem own_elem {α : Type} {f : α → List Value} {sz : Nat} (hf : ∀ x, (f x).length = sz) {xs : List α} {i : Nat} {y : α} (hy : xs[i]? = some y) (ty : TypeId) : ownCells (some (.cells (xs.flatMap f) ty)) (i * sz) sz = some (f y) := by
  simp only [ownCells, if_pos (fm_fit hf (List.getElem?_eq_some_iff.1 hy).1), fm_at hf hy]
/- Told without 'rfl': for dischargers. -/
theorem alloc_nx (st : St) (b : Blk) : (st.alloc b).next = st.next + 1 := Nat.le_antisymm (Nat.le_refl _) (Nat.le_refl _)
theorem set_nx (st : St) (i : Nat) (b : Blk) : (st.set i b).next = st.next := Nat.le_antisymm (Nat.le_refl _) (Nat.le_refl _)
theorem kill_nx (st : St) (i : Nat) : (st.kill i).next = st.next := Nat.le_antisymm (Nat.le_refl _) (Nat.le_refl _)
theorem alloc_at {b : Blk} {i : Nat} (h : i = st.next) : (st.alloc b).blk i = some b := by rw [h]; exact alloc_eq _ _
theorem part_one (v : Value) : partOf false [v] = some v := rfl
theorem part_agg (cs : List Value) : partOf true cs = some (.agg cs.toArray) := rfl
theorem cq_agg (cs : List Value) : cellsQ (.agg cs.toArray) = some cs := rfl
theorem cq_agg' (cs : List Value) : cellsQ (.agg (Array.mk cs)) = some cs := rfl
theorem cq_int (k : IntKind) (i : Int) : cellsQ (.int k i) = some [.int k i] := rfl
theorem cq_bool (b : Bool) : cellsQ (.bool b) = some [.bool b] := rfl
theorem cq_str (b : ByteArray) : cellsQ (.string b) = some [.string b] := rfl
theorem cq_ptr (a : Option Addr) : cellsQ (.pointer a) = some [.pointer a] := rfl
theorem cq_slice (a : Option Addr) (n c : Nat) : cellsQ (.slice a n c) = some [.slice a n c] := rfl
theorem cq_map (a : Option Nat) : cellsQ (.map a) = some [.map a] := rfl
/-- An address so many cells on. -/
def addV (a : Addr) (n : Nat) : Addr := a.add n
theorem addv_own (b o n : Nat) : addV ⟨b, o, none⟩ n = ⟨b, o + n, none⟩ := addr_add b o n
theorem addv_zero (a : Addr) : addV a 0 = a := by unfold addV Addr.add; rfl
theorem add_own (b o n : Nat) : (⟨b, o, none⟩ : Addr).add n = ⟨b, o + n, none⟩ := addr_add b o n

/-! ### Operations, by what they are -/
def binV (P : Program) (op : BinOp) (t : TypeId) (x y : Operand) (a b : Option Value) : Option Value :=
  match a, b with | some a, some b => (if flatV a && flatV b then pureF P (do eqGuard op t x y a b; binOp op t a b) else none) | _, _ => none
def eqpV (neg : Bool) (a b : Option Value) : Option Value :=
  match a, b with | some (.pointer a), some (.pointer b) => (if a.isSome && b.isSome then none else some (.bool (neg ^^ (a.isNone && b.isNone)))) | _, _ => none
def unV (P : Program) (op : UnOp) (a : Option Value) : Option Value := match a with | some a => (if flatV a then pureF P (Op.unary op a) else none) | none => none
def pickV (c a b : Option Value) : Option Value := match c with | some (.bool t) => (if t then a else b) | _ => none
def lenV (a : Option Value) : Option Value := match a with | some (.slice _ n _) => some (.int .i64 n) | _ => none
def lenSV (a : Option Value) : Option Value := match a with | some (.string s) => some (.int .i64 s.size) | _ => none
def nilV (a : Option Value) : Option Value := match a with | some (.pointer (some a)) => some (.pointer (some a)) | _ => none
def faV (off : Nat) (a : Option Value) : Option Value := match a with | some (.pointer (some a)) => some (.pointer (some (a.add off))) | _ => none
def iaV (sz : Nat) (a i : Option Value) : Option Value := match a, i with | some (.slice (some a) n _), some (.int _ i) => (if 0 ≤ i ∧ i < n then some (.pointer (some (a.add (i.toNat * sz)))) else none) | _, _ => none
def iaAV (ln sz : Nat) (a i : Option Value) : Option Value := match a, i with | some (.pointer (some a)), some (.int _ i) => (if 0 ≤ i ∧ i < ln then some (.pointer (some (a.add (i.toNat * sz)))) else none) | _, _ => none
def ldV (w0 : World) (st : St) (n : Nat) (agg : Bool) (a : Option Value) : Option Value := match a with | some (.pointer (some a)) => (match cellsAt w0 st a n with | some cs => partOf agg cs | none => none) | _ => none
def fldV (off n : Nat) (agg : Bool) (a : Option Value) : Option Value := match a with | some (.agg cs) => (if off + n ≤ cs.size then partOf agg ((cs.toList.drop off).take n) else none) | _ => none
def extV (k : Nat) (a : Option Value) : Option Value := match a with | some (.tuple vs) => vs[k]? | _ => none
def bldV (zero : List Value) (places : List (Nat × Nat)) (a : Option (List (Nat × List Value))) : Option Value := match a with | some l => ((fillL places zero l).map fun cs => .agg cs.toArray) | none => none
def storeV (n : Nat) (st : St) (a : Option Value) (v : Option (List Value)) : Option (Value × St) := match a, v with
    | some (.pointer (some a)), some vs =>
      if a.spot = none ∧ vs.length = n then
        match st.blk a.block with
        | some (.cells cs ty) => if a.off + n ≤ cs.length then some (undef, st.set a.block (.cells (cs.take a.off ++ vs ++ cs.drop (a.off + n)) ty)) else none
        | _ => none
      else none
    | _, _ => none
def appV (w0 : World) (st : St) (ty : TypeId) (sz bytes : Nat) (s x : Option Value) : Option (Value × St) := match s, x with
    | some s, some x => match newCells w0 st sz x with
      | some (m, new) => appendV w0.heap.size st ty sz bytes s m new
      | none => none
    | _, _ => none
def appZV (w0 : World) (st : St) (ty : TypeId) (sz bytes : Nat) (zero : List Value) (s x : Option Value) : Option (Value × St) := match s, x with
    | some s, some (.int .i64 m) => if 0 ≤ m ∧ m < 9223372036854775808 then appendV w0.heap.size st ty sz bytes s m.toNat (zeros m.toNat zero) else none
    | _, _ => none
def copyV (w0 : World) (st : St) (sz : Nat) (d s : Option Value) : Option (Value × St) := match d, s with
    | some (.slice da dn _), some (.slice sa sn _) =>
      if min sn dn = 0 then some (.int .i64 0, st) else
      match da, sa with
      | some da, some sa => match st.blk da.block, cellsAt w0 st sa (min sn dn * sz) with
        | some (.cells cs ty), some vs => if da.spot = none ∧ da.off + min sn dn * sz ≤ cs.length then
            some (.int .i64 (min sn dn : Nat), st.set da.block (.cells (cs.take da.off ++ vs ++ cs.drop (da.off + min sn dn * sz)) ty)) else none
        | _, _ => none
      | _, _ => none
    | _, _ => none
def mapsetV (str : Bool) (st : St) (m k v : Option Value) : Option (Value × St) := match m, k, v with
    | some (.map (some b)), some k, some v => match st.blk b with
      | some (.map es) =>
        if atom k = true then
          match findD str k es 0 with
          | some (some (i, _)) => some (undef, st.set b (.map (es.set i (k, v))))
          | some none => some (undef, st.set b (.map (es ++ [(k, v)])))
          | none => none
        else none
      | _ => none
    | _, _, _ => none
def nextV (st : St) (x : Option Value) : Option (Value × St) := match x with
    | some (.pointer (some a)) => match st.blk a.block with
      | some (.iter s pos) =>
        if a.off = 0 ∧ a.spot = none then
          if pos < s.size then some (.tuple #[.bool true, .int .i64 pos, .int .i32 (Utf8.decode s pos).1], st.set a.block (.iter s (pos + (Utf8.decode s pos).2)))
          else some (.tuple #[.bool false], st)
        else none
      | _ => none
    | _ => none
def boxV (n : Nat) (ty : TypeId) (a : Option (List Value)) : Option (Blk × (Nat → Value)) := match a with | some cs => (if cs.length = n then some (.cells cs ty, ptrTo) else none) | none => none
def rowV (ty : TypeId) (sz len : Nat) (zero : List Value) (a : Option (List (Nat × List Value))) : Option (Blk × (Nat → Value)) :=
  match a with | some l => ((fillL ((List.range len).map fun i => (i * sz, sz)) zero l).map fun cs => (.cells cs ty, fun b => .slice (some ⟨b, 0, none⟩) len sz)) | none => none
def makeV (ty : TypeId) (sz bytes : Nat) (zero : List Value) (l c : Option Value) : Option (Blk × (Nat → Value)) := match l, c with
    | some (.int .i64 n), some (.int .i64 m) => if 0 ≤ n ∧ n = m ∧ n * bytes ≤ 140737488355328 ∧ n < 9223372036854775808 then some (.cells (zeros n.toNat zero) ty, fun b => .slice (some ⟨b, 0, none⟩) n.toNat sz) else none
    | _, _ => none
def iterV (a : Option Value) : Option (Blk × (Nat → Value)) := match a with | some (.string s) => some (.iter s 0, ptrTo) | _ => none

section ops
variable (x y i : Operand) (c : Operand)
theorem lo_mov : (LOp.mov x).eval P w0 env st = evalO env x := rfl
theorem lo_pick : (LOp.pick c x y).eval P w0 env st = pickV (evalO env c) (evalO env x) (evalO env y) := rfl
theorem lo_bin (op : BinOp) (t : TypeId) : (LOp.bin op t x y).eval P w0 env st = binV P op t x y (evalO env x) (evalO env y) := rfl
theorem lo_eqp (neg : Bool) : (LOp.eqp neg x y).eval P w0 env st = eqpV neg (evalO env x) (evalO env y) := rfl
theorem lo_un (op : UnOp) : (LOp.un op x).eval P w0 env st = unV P op (evalO env x) := rfl
theorem lo_len : (LOp.len x).eval P w0 env st = lenV (evalO env x) := rfl
theorem lo_lenS : (LOp.lenS x).eval P w0 env st = lenSV (evalO env x) := rfl
theorem lo_nilchk : (LOp.nilchk x).eval P w0 env st = nilV (evalO env x) := rfl
theorem lo_fa (off : Nat) : (LOp.fa off x).eval P w0 env st = faV off (evalO env x) := rfl
theorem lo_iaS (sz : Nat) : (LOp.iaS sz x i).eval P w0 env st = iaV sz (evalO env x) (evalO env i) := rfl
theorem lo_iaA (ln sz : Nat) : (LOp.iaA ln sz x i).eval P w0 env st = iaAV ln sz (evalO env x) (evalO env i) := rfl
theorem lo_ld (n : Nat) (agg : Bool) : (LOp.ld n agg x).eval P w0 env st = ldV w0 st n agg (evalO env x) := rfl
theorem lo_fld (off n : Nat) (agg : Bool) : (LOp.fld off n agg x).eval P w0 env st = fldV off n agg (evalO env x) := rfl
theorem lo_ext (k : Nat) : (LOp.ext k x).eval P w0 env st = extV k (evalO env x) := rfl
theorem lo_bld (zero : List Value) (places : List (Nat × Nat)) (parts : List (Nat × Operand)) : (LOp.bld zero places parts).eval P w0 env st = bldV zero places (evalParts env parts) := rfl
theorem lo_conv (s d : TypeId) : (LOp.conv s d x).eval P w0 env st = (match evalO env x with | some a => if flatV a then pureF P (convert s d a) else none | none => none) := rfl
theorem lo_idxS (t : TypeId) : (LOp.idxS t x i).eval P w0 env st = (match evalO env x, evalO env i with | some a, some b => if flatV a && flatV b then pureF P (Instr.index t a b) else none | _, _ => none) := rfl
theorem lo_slS (t : TypeId) (lo hi : Option Operand) : (LOp.slS t x lo hi).eval P w0 env st = (match evalO env x, evalOpt env lo, evalOpt env hi with | some a, some l, some h => if flatV a && (l.all flatV) && (h.all flatV) then pureF P (Instr.slice t a l h none) else none | _, _, _ => none) := rfl
theorem lo_slc (sz : Nat) (lo hi : Option Operand) : (LOp.slc sz x lo hi).eval P w0 env st = (match evalO env x, evalOpt env lo, evalOpt env hi with | some a, some l, some h => sliceV w0.heap.size sz a l h | _, _, _ => none) := rfl
theorem lo_slA (ln sz : Nat) : (LOp.slA ln sz x).eval P w0 env st = (match evalO env x with | some (.pointer (some a)) => if a.block < w0.heap.size then none else some (.slice (some a) ln 0) | _ => none) := rfl
theorem lo_mkI (t : TypeId) : (LOp.mkI t x).eval P w0 env st = (evalO env x).map (.iface t) := rfl
theorem lo_min2 : (LOp.min2 x y).eval P w0 env st = (match evalO env x, evalO env y with | some (.int k a), some (.int _ b) => some (.int k (if b < a then b else a)) | _, _ => none) := rfl
theorem ao_cells (cs : List Value) (ty : TypeId) : (AOp.cells cs ty).eval env = some (.cells cs ty, ptrTo) := rfl
theorem ao_box (n : Nat) (ty : TypeId) : (AOp.box n ty x).eval env = boxV n ty ((evalO env x).bind cellsQ) := rfl
theorem ao_row (ty : TypeId) (sz len : Nat) (zero : List Value) (parts : List (Nat × Operand)) : (AOp.row ty sz len zero parts).eval env = rowV ty sz len zero (evalParts env parts) := rfl
theorem ao_make (ty : TypeId) (sz bytes : Nat) (zero : List Value) (l : Operand) : (AOp.make ty sz bytes zero l c).eval env = makeV ty sz bytes zero (evalO env l) (evalO env c) := rfl
theorem ao_mkmap : AOp.mkmap.eval env = some (.map [], fun b => .map (some b)) := rfl
theorem ao_iter : (AOp.iter x).eval env = iterV (evalO env x) := rfl
theorem ho_store (n : Nat) : (HOp.store n x y).eval w0 env st = storeV n st (evalO env x) ((evalO env y).bind cellsQ) := rfl
theorem ho_append (ty : TypeId) (sz bytes : Nat) : (HOp.append ty sz bytes x y).eval w0 env st = appV w0 st ty sz bytes (evalO env x) (evalO env y) := rfl
theorem ho_appendZ (ty : TypeId) (sz bytes : Nat) (zero : List Value) : (HOp.appendZ ty sz bytes zero x y).eval w0 env st = appZV w0 st ty sz bytes zero (evalO env x) (evalO env y) := rfl
theorem ho_copy (sz : Nat) : (HOp.copy sz x y).eval w0 env st = copyV w0 st sz (evalO env x) (evalO env y) := rfl
theorem ho_mapset (str : Bool) : (HOp.mapset str x y c).eval w0 env st = mapsetV str st (evalO env x) (evalO env y) (evalO env c) := rfl
theorem ho_next : (HOp.next x).eval w0 env st = nextV st (evalO env x) := rfl
end ops

section vals
variable {t : TypeId} {x y : Operand} {k : IntKind} {a b : Int}
theorem bv_of {op : BinOp} {va vb v : Value} (hf : (flatV va && flatV vb) = true) (h : pureF P (do eqGuard op t x y va vb; binOp op t va vb) = some v) : binV P op t x y (some va) (some vb) = some v := by
  simp only [binV, hf, if_true]; exact h
theorem bv_add64 (h : -9223372036854775808 ≤ a + b ∧ a + b ≤ 9223372036854775807) : binV P .add t x y (some (.int .i64 a)) (some (.int .i64 b)) = some (.int .i64 (a + b)) := bv_of rfl (by rw [bin_add, w64 h])
theorem bv_sub64 (h : -9223372036854775808 ≤ a - b ∧ a - b ≤ 9223372036854775807) : binV P .sub t x y (some (.int .i64 a)) (some (.int .i64 b)) = some (.int .i64 (a - b)) := bv_of rfl (by rw [bin_sub, w64 h])
theorem bv_mul64 (h : -9223372036854775808 ≤ a * b ∧ a * b ≤ 9223372036854775807) : binV P .mul t x y (some (.int .i64 a)) (some (.int .i64 b)) = some (.int .i64 (a * b)) := bv_of rfl (by rw [bin_mul, w64 h])
theorem bv_add : binV P .add t x y (some (.int k a)) (some (.int k b)) = some (.int k (k.wrap (a + b))) := bv_of rfl (bin_add ..)
theorem bv_sub : binV P .sub t x y (some (.int k a)) (some (.int k b)) = some (.int k (k.wrap (a - b))) := bv_of rfl (bin_sub ..)
theorem bv_mul : binV P .mul t x y (some (.int k a)) (some (.int k b)) = some (.int k (k.wrap (a * b))) := bv_of rfl (bin_mul ..)
theorem bv_rem (h : 0 ≤ a ∧ 0 < b) : binV P .rem t x y (some (.int k a)) (some (.int k b)) = some (.int k (a % b)) := bv_of rfl (by rw [bin_rem _ _ _ _ _ _ _ (by omega), Int.tmod_eq_emod_of_nonneg h.1])
theorem bv_remt (h : b ≠ 0) : binV P .rem t x y (some (.int k a)) (some (.int k b)) = some (.int k (a.tmod b)) := bv_of rfl (bin_rem _ _ _ _ _ _ _ h)
theorem bv_quo (h : 0 ≤ a ∧ 0 < b ∧ a ≤ 9223372036854775807) : binV P .quo t x y (some (.int .i64 a)) (some (.int .i64 b)) = some (.int .i64 (a / b)) := bv_of rfl (by
    rw [bin_quo _ _ _ _ _ _ _ (by omega), Int.tdiv_eq_ediv_of_nonneg h.1, w64]
    have h1 := Int.ediv_nonneg h.1 (Int.le_of_lt h.2.1)
    have h2 := Int.ediv_le_self b h.1
    omega)
theorem bv_eql : binV P .eql t x y (some (.int k a)) (some (.int k b)) = some (.bool (decide (a = b))) := bv_of rfl (bin_eql ..)
theorem bv_neq : binV P .neq t x y (some (.int k a)) (some (.int k b)) = some (.bool (decide (a ≠ b))) := bv_of rfl (bin_neq ..)
theorem bv_lss : binV P .lss t x y (some (.int k a)) (some (.int k b)) = some (.bool (decide (a < b))) := bv_of rfl (bin_lss ..)
theorem bv_leq : binV P .leq t x y (some (.int k a)) (some (.int k b)) = some (.bool (decide (a ≤ b))) := bv_of rfl (bin_leq ..)
theorem bv_gtr : binV P .gtr t x y (some (.int k a)) (some (.int k b)) = some (.bool (decide (b < a))) := bv_of rfl (bin_gtr ..)
theorem bv_geq : binV P .geq t x y (some (.int k a)) (some (.int k b)) = some (.bool (decide (b ≤ a))) := bv_of rfl (bin_geq ..)
theorem bv_seq (a b : ByteArray) : binV P .eql t x y (some (.string a)) (some (.string b)) = some (.bool (decide (a = b))) := bv_of rfl (bin_seq ..)
theorem bv_sne (a b : ByteArray) : binV P .neq t x y (some (.string a)) (some (.string b)) = some (.bool (decide (a ≠ b))) := bv_of rfl (bin_sne ..)
theorem uv_not (b : Bool) : unV P .not (some (.bool b)) = some (.bool (!b)) := un_not P b
theorem uv_neg (h : -9223372036854775808 < a ∧ a ≤ 9223372036854775807) : unV P .neg (some (.int .i64 a)) = some (.int .i64 (-a)) := by
  refine Eq.trans (un_neg P .i64 a) ?_
  rw [w64 (by omega), Int.zero_sub]
end vals
section vals2
variable {a : Addr} {b o n m c sz : Nat} {j : IntKind} {i : Int}
theorem pv_eq_some : eqpV false (some (.pointer (some a))) (some (.pointer none)) = some (.bool false) := rfl
theorem pv_eq_nil : eqpV false (some (.pointer none)) (some (.pointer none)) = some (.bool true) := rfl
theorem pv_ne_some : eqpV true (some (.pointer (some a))) (some (.pointer none)) = some (.bool true) := rfl
theorem pv_ne_nil : eqpV true (some (.pointer none)) (some (.pointer none)) = some (.bool false) := rfl
theorem kv_true (x y : Option Value) : pickV (some (.bool true)) x y = x := rfl
theorem kv_false (x y : Option Value) : pickV (some (.bool false)) x y = y := rfl
theorem kv_bool (t x y : Bool) : pickV (some (.bool t)) (some (.bool x)) (some (.bool y)) = some (.bool (if t then x else y)) := by cases t <;> rfl
theorem lv_len (a : Option Addr) : lenV (some (.slice a n c)) = some (.int .i64 n) := rfl
theorem lv_lenS (s : ByteArray) : lenSV (some (.string s)) = some (.int .i64 s.size) := rfl
theorem nv_some : nilV (some (.pointer (some a))) = some (.pointer (some a)) := rfl
theorem fv_own (off : Nat) : faV off (some (.pointer (some ⟨b, o, none⟩))) = some (.pointer (some ⟨b, o + off, none⟩)) := by simp only [faV, addr_add]
theorem fv_any (off : Nat) : faV off (some (.pointer (some a))) = some (.pointer (some (addV a off))) := rfl
theorem iv_nat (h : m < n) : iaV sz (some (.slice (some ⟨b, o, none⟩) n c)) (some (.int j (m : Int))) = some (.pointer (some ⟨b, o + m * sz, none⟩)) := by
  have h1 : 0 ≤ (m : Int) ∧ (m : Int) < n := ⟨by omega, by omega⟩
  simp only [iaV, if_pos h1, addr_add, Int.toNat_natCast]
theorem iv_int (h : 0 ≤ i ∧ i < n) : iaV sz (some (.slice (some ⟨b, o, none⟩) n c)) (some (.int j i)) = some (.pointer (some ⟨b, o + i.toNat * sz, none⟩)) := by simp only [iaV, if_pos h, addr_add]
theorem iv_any (h : 0 ≤ i ∧ i < n) : iaV sz (some (.slice (some a) n c)) (some (.int j i)) = some (.pointer (some (addV a (i.toNat * sz)))) := by simp only [iaV, if_pos h]; rfl
theorem iav_int {ln : Nat} (h : 0 ≤ i ∧ i < ln) : iaAV ln sz (some (.pointer (some ⟨b, o, none⟩))) (some (.int j i)) = some (.pointer (some ⟨b, o + i.toNat * sz, none⟩)) := by simp only [iaAV, if_pos h, addr_add]
theorem dv_own {agg : Bool} (h : ¬ b < w0.heap.size) : ldV w0 st n agg (some (.pointer (some ⟨b, o, none⟩))) = (ownCells (st.blk b) o n).bind (partOf agg) := by
  simp only [ldV, cells_own h]; cases ownCells (st.blk b) o n <;> rfl
theorem fl_one {off : Nat} {cs : List Value} : fldV off 1 false (some (.agg cs.toArray)) = cs[off]? := by
  simp only [fldV, List.size_toArray]
  split
  · rename_i h
    have : off < cs.length := by omega
    rw [take_one (List.getElem?_eq_getElem this), List.getElem?_eq_getElem this]; rfl
  · rw [List.getElem?_eq_none (by omega)]
theorem fl_one' {off : Nat} {cs : List Value} : fldV off 1 false (some (.agg (Array.mk cs))) = cs[off]? := fl_one
theorem fl_agg {off : Nat} {cs : List Value} : fldV off n true (some (.agg cs.toArray)) = if off + n ≤ cs.length then some (.agg ((cs.drop off).take n).toArray) else none := rfl
theorem xv_tup {k : Nat} {vs : List Value} : extV k (some (.tuple vs.toArray)) = vs[k]? := by simp [extV]
theorem xv_tup' {k : Nat} {vs : List Value} : extV k (some (.tuple (Array.mk vs))) = vs[k]? := xv_tup
theorem bl_some (zero : List Value) (places : List (Nat × Nat)) (l : List (Nat × List Value)) : bldV zero places (some l) = (fillL places zero l).map fun cs => .agg cs.toArray := rfl
theorem sv_own {vs : List Value} : storeV n st (some (.pointer (some ⟨b, o, none⟩))) (some vs) = if vs.length = n then (putC (st.blk b) o n vs).map fun bk => (undef, st.set b bk) else none := by
  simp only [storeV, true_and, putC]
  split
  · cases st.blk b with
    | none => rfl
    | some bk =>
      cases bk with
      | cells cs ty => simp only; split <;> rfl
      | _ => rfl
  · rfl
theorem xb_some {ty : TypeId} {cs : List Value} : boxV n ty (some cs) = if cs.length = n then some (.cells cs ty, ptrTo) else none := rfl
theorem rv_some (ty : TypeId) (len : Nat) (zero : List Value) (l : List (Nat × List Value)) : rowV ty sz len zero (some l) = (fillL ((List.range len).map fun i => (i * sz, sz)) zero l).map fun cs => (.cells cs ty, fun b => .slice (some ⟨b, 0, none⟩) len sz) := rfl
theorem rv_one' {ty : TypeId} {zero vs : List Value} (hl : vs.length = sz) (hz : zero.length = sz) : rowV ty sz 1 zero (some [(0, vs)]) = some (.cells vs ty, fun b => .slice (some ⟨b, 0, none⟩) 1 sz) := by
  have h1 : vs.length = sz ∧ sz ≤ zero.length := ⟨hl, by omega⟩
  have h0 : ((List.range 1).map fun i => (i * sz, sz))[0]? = some (0, sz) := by simp
  simp only [rowV, fillL, h0, Nat.zero_add, if_pos h1, List.take_zero, List.nil_append]
  rw [List.drop_eq_nil_of_le (by omega), List.append_nil]; rfl
theorem rv_one {ty : TypeId} {zero vs : List Value} : rowV ty sz 1 zero (some [(0, vs)]) = if vs.length = sz then (if zero.length = sz then some (.cells vs ty, fun b => .slice (some ⟨b, 0, none⟩) 1 sz) else rowV ty sz 1 zero (some [(0, vs)])) else rowV ty sz 1 zero (some [(0, vs)]) := by
  split
  · split
    · exact rv_one' (by assumption) (by assumption)
    · rfl
  · rfl
theorem rv_none {ty : TypeId} : rowV ty sz 0 [] (some []) = some (.cells [] ty, fun b => .slice (some ⟨b, 0, none⟩) 0 sz) := rfl
theorem mv_nat {ty : TypeId} {bytes : Nat} {zero : List Value} (h : m * bytes ≤ 140737488355328 ∧ m < 9223372036854775808) : makeV ty sz bytes zero (some (.int .i64 (m : Int))) (some (.int .i64 (m : Int))) = some (.cells (zeros m zero) ty, fun b => .slice (some ⟨b, 0, none⟩) m sz) := by
  have h1 : (m : Int) * (bytes : Int) ≤ 140737488355328 := by rw [← Int.natCast_mul]; omega
  have h' : 0 ≤ (m : Int) ∧ (m : Int) = m ∧ (m : Int) * bytes ≤ 140737488355328 ∧ (m : Int) < 9223372036854775808 := ⟨by omega, rfl, h1, by omega⟩
  exact if_pos h'
theorem mv_int {ty : TypeId} {bytes : Nat} {zero : List Value} (h : 0 ≤ i ∧ i * (bytes : Int) ≤ 140737488355328 ∧ i < 9223372036854775808) : makeV ty sz bytes zero (some (.int .i64 i)) (some (.int .i64 i)) = some (.cells (zeros i.toNat zero) ty, fun b => .slice (some ⟨b, 0, none⟩) i.toNat sz) := by
  have h' : 0 ≤ i ∧ i = i ∧ i * bytes ≤ 140737488355328 ∧ i < 9223372036854775808 := ⟨h.1, rfl, h.2⟩
  exact if_pos h'
theorem iv_str (s : ByteArray) : iterV (some (.string s)) = some (.iter s 0, ptrTo) := rfl
end vals2

theorem eo_none : evalOpt env none = some none := rfl
theorem eo_some (x : Operand) : evalOpt env (some x) = (evalO env x).map some := rfl

theorem in_add {a b : Int} (h : -9223372036854775808 ≤ a + b ∧ a + b ≤ 9223372036854775807) : IntKind.i64.wrap (a + b) = a + b := w64 h
theorem in_sub {a b : Int} (h : -9223372036854775808 ≤ a - b ∧ a - b ≤ 9223372036854775807) : IntKind.i64.wrap (a - b) = a - b := w64 h
theorem in_mul {a b : Int} (h : -9223372036854775808 ≤ a * b ∧ a * b ≤ 9223372036854775807) : IntKind.i64.wrap (a * b) = a * b := w64 h
theorem tmod_pos {a b : Int} (h : 0 ≤ a) : a.tmod b = a % b := Int.tmod_eq_emod_of_nonneg h
theorem flat_int (k : IntKind) (i : Int) : flatV (.int k i) = true := rfl
theorem flat_bool (b : Bool) : flatV (.bool b) = true := rfl
theorem flat_str (b : ByteArray) : flatV (.string b) = true := rfl
theorem flat_ptr : flatV (.pointer none) = true := rfl
theorem flat_slice (a b : Nat) : flatV (.slice none a b) = true := rfl
/-- An element's number. -/
theorem ix_nat {n m : Nat} {α : Type} {a b : α} (h : m < n) : (if 0 ≤ (m : Int) ∧ (m : Int) < (n : Int) then a else b) = a := if_pos ⟨by omega, by omega⟩
theorem ix_int {n : Nat} {m : Int} {α : Type} {a b : α} (h : 0 ≤ m ∧ m < (n : Int)) : (if 0 ≤ m ∧ m < (n : Int) then a else b) = a := if_pos h

/-- One element put behind. -/
theorem goH_app1 {α : Type} {f : α → List Value} {sz : Nat} {ty : TypeId} {b n c : Nat} {xs : List α} {a : Option Addr} {bytes bx cx : Nat} {tx : TypeId} {y : α} (hc : st.blk bx = some (.cells (f y) tx)) (hf : ∀ x, (f x).length = sz) (hz : 0 < sz) (ho : Ok w0 st) (h : Sl st ty sz f b xs a n c)
    (hb : (n + 1) * bytes ≤ 140737488355328 ∧ n + 1 < 9223372036854775807)
    (k : ∀ a' n' c' st', Sl st' ty sz f st.next (xs ++ [y]) a' n' c' → Ok w0 st' → st'.next = st.next + 1 → (∀ i, i < st.next → (a = none ∨ i ≠ b) → st'.blk i = st.blk i) → wpR P w0 rest K ((d, .slice a' n' c') :: env) st') :
    goH P w0 (appV w0 st ty sz bytes (some (.slice a n c)) (some (.slice (some ⟨bx, 0, none⟩) 1 cx))) (some d) rest K env := by
  obtain ⟨v, s, h1, h2⟩ : ∃ v s, appV w0 st ty sz bytes (some (.slice a n c)) (some (.slice (some ⟨bx, 0, none⟩) 1 cx)) = some (v, s) ∧ wpR P w0 rest K ((d, v) :: env) s := by
    have hbx := ho.lt hc
    have hnew : newCells w0 st sz (.slice (some ⟨bx, 0, none⟩) 1 cx) = some (1, [y].flatMap f) := by
      rw [newCells_own hbx.2 hc (by rw [hf]; omega)]
      simp only [List.drop_zero, Nat.one_mul, List.flatMap_cons, List.flatMap_nil, List.append_nil]
      rw [List.take_of_length_le (by rw [hf]; omega)]
    obtain ⟨a', n', c', st', e, hs, ho', hn', hfr⟩ := app1_eval (bytes := bytes) (y := y) hf hz ho h hb
    exact ⟨_, _, by simp only [appV, hnew]; exact e, k a' n' c' st' hs ho' hn' hfr⟩
  exact goH_of h1 h2

theorem newCells_Sl {α : Type} {f : α → List Value} {sz : Nat} {ty : TypeId} {b n c : Nat} {xs : List α} {a : Option Addr} (hf : ∀ x, (f x).length = sz) (ho : Ok w0 st) (h : Sl st ty sz f b xs a n c) : newCells w0 st sz (.slice a n c) = some (n, xs.flatMap f) := by
  have hn := h.len
  rcases h.h with ⟨rfl, rfl, rfl⟩ | ⟨rfl, rfl, hb⟩
  · subst hn; rfl
  · subst hn
    rw [newCells_own (ho.lt hb).2 hb (by rw [fm_len hf]; omega), List.drop_zero, fm_take hf, List.take_length]
/-- A row put behind another one. -/
theorem app_eval {α : Type} {f : α → List Value} {sz : Nat} {ty ty' : TypeId} {b n c b1 n1 c1 bytes : Nat} {xs ys : List α} {a a1 : Option Addr} (hf : ∀ x, (f x).length = sz) (hz : 0 < sz) (ho : Ok w0 st) (h : Sl st ty sz f b xs a n c) (h1 : Sl st ty' sz f b1 ys a1 n1 c1)
    (hb : (n + n1) * bytes ≤ 140737488355328 ∧ n + n1 < 9223372036854775807) :
    ∃ a' n' c' b' st', appV w0 st ty sz bytes (some (.slice a n c)) (some (.slice a1 n1 c1)) = some (.slice a' n' c', st') ∧ Sl st' ty sz f b' (xs ++ ys) a' n' c' ∧ (b' = b ∨ b' = st.next) ∧ Ok w0 st' ∧ st.next ≤ st'.next ∧
      (∀ i, i ≠ b → i < st.next → st'.blk i = st.blk i) ∧ (xs = [] → a = none → ∀ i, i < st.next → st'.blk i = st.blk i) := by
  obtain ⟨a', n', c', b', st', e, rest⟩ := append_eval (bytes := bytes) (m := n1) hf hz ho h h1.len hb
  exact ⟨a', n', c', b', st', by simp only [appV, newCells_Sl hf ho h1]; exact e, rest⟩

/-- A row copied over the beginning of another one. -/
theorem copy_eval {α : Type} {f : α → List Value} {sz : Nat} {ty ty' : TypeId} {M b n c dc : Nat} {xs Z : List α} {a : Option Addr} (hf : ∀ x, (f x).length = sz) (ho : Ok w0 st) (hM : st.blk M = some (.cells (Z.flatMap f) ty)) (h : Sl st ty' sz f b xs a n c) (hl : xs.length ≤ Z.length) :
    ∃ st', copyV w0 st sz (some (.slice (some ⟨M, 0, none⟩) Z.length dc)) (some (.slice a n c)) = some (.int .i64 xs.length, st') ∧ st'.blk M = some (.cells ((xs ++ Z.drop xs.length).flatMap f) ty) ∧ st'.next = st.next ∧ (∀ i, i ≠ M → st'.blk i = st.blk i) ∧ Ok w0 st' := by
  have hn := h.len
  subst hn
  have hmin : min xs.length Z.length = xs.length := by omega
  by_cases h0 : xs = []
  · subst h0
    exact ⟨st, by simp [copyV], by simpa using hM, rfl, fun _ _ => rfl, ho⟩
  · obtain ⟨rfl, rfl, hb⟩ := h.some h0
    have hpos : ¬ xs.length = 0 := fun e => h0 (List.length_eq_zero_iff.1 e)
    have hbl := ho.lt hb
    have hl1 : 0 + xs.length * c ≤ (xs.flatMap f).length := by rw [fm_len hf]; omega
    have hl2 : none = (none : Option Nat) ∧ 0 + xs.length * c ≤ (Z.flatMap f).length := ⟨rfl, by rw [fm_len hf]; have := Nat.mul_le_mul_right c hl; omega⟩
    refine ⟨st.set M (.cells ((Z.flatMap f).take 0 ++ ((xs.flatMap f).drop 0).take (xs.length * c) ++ (Z.flatMap f).drop (0 + xs.length * c)) ty), ?_, ?_, rfl, fun i hi => set_ne _ _ hi, ho.set hM _⟩
    · have e : cellsAt w0 st ⟨b, 0, none⟩ (xs.length * c) = some (((xs.flatMap f).drop 0).take (xs.length * c)) := cellsAt_own hbl.2 hb hl1
      simp only [copyV, hmin, if_neg hpos, hM, e, true_and, hl2.2, if_true]
    · rw [set_eq, List.take_zero, List.nil_append, List.drop_zero, fm_take hf, List.take_length, Nat.zero_add, fm_drop hf, List.flatMap_append]

/-- What must hold between two statements. -/
structure MidK (M : Env → St → Prop) (K : Env → St → Prop) : Prop where
  h : ∀ env0 env st, Sub env0 env → M env0 st → K env st
theorem use_M {M : Env → St → Prop} {K : Env → St → Prop} {env0 env : Env} {st : St} (hK : MidK M K) (hs : Sub env0 env) (h : M env0 st) : K env st := hK.h _ _ _ hs h
theorem wq_mid {x y : S} {Q : Exit → Env → St → Prop} {env : Env} {st : St} (M : Env → St → Prop) (hq : Up Q) (h1 : ∀ K : Env → St → Prop, UpK K → MidK M K → wpS P w0 x (thenE K Q) env st) (h2 : ∀ env st, M env st → wpS P w0 y Q env st) : wpS P w0 (.seq x y) Q env st :=
  h1 _ (hq.seq y) ⟨fun _ _ _ hs h => hq.seq y _ _ _ hs (h2 _ _ h)⟩
theorem Sl.pick {α : Type} {f : α → List Value} {sz : Nat} {ty : TypeId} {b n c : Nat} {xs : List α} {a : Option Addr} (h : Sl st ty sz f b xs a n c) (ho : Ok w0 st) : ∃ b', Sl st ty sz f b' xs a n c ∧ b' ≠ st.next ∧ (b' = b ∨ st.next < b') := by
  rcases h.h with ⟨rfl, rfl, rfl⟩ | ⟨h1, h2, h3⟩
  · exact ⟨st.next + 1, ⟨h.len, .inl ⟨rfl, rfl, rfl⟩⟩, by omega, .inr (by omega)⟩
  · exact ⟨b, h, by have := (ho.lt h3).1; omega, .inl rfl⟩
end
end Go.Proofs.Ytnndjlgkhfinjaa.V
