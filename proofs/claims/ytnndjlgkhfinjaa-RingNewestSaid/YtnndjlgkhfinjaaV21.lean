/-
  The abstract semantics 'V', part 21: structs held against each other.
-/
import Derived.Test.YtnndjlgkhfinjaaV20
set_option linter.all false
set_option linter.unusedSimpArgs false
set_option linter.unusedVariables false
set_option linter.unnecessarySimpa false
namespace Go.Proofs.Ytnndjlgkhfinjaa.V
open Go Go.RowKit

section
variable {P : Program}
theorem pv_bind {α β : Type} (s : Sem α) (k : α → Sem β) : pureV P (s >>= k) = (pureV P s).bind fun a => pureV P (k a) := by
  show pureV P (Sem.bind s k) = _
  induction s with
  | pure a => rfl
  | program f ih => exact ih P
  | _ => rfl
theorem pv_pure {α : Type} (a : α) : pureV P (pure a : Sem α) = some a := rfl
theorem pv_program : pureV P program = some P := rfl
theorem pv_underlying {t : TypeId} {d : TypeDesc} (h : P.underlying t = some d) : pureV P (underlying t) = some d := by
  simp only [underlying, pv_bind, pv_program, Option.bind_some, h, pv_pure]

def eqFieldsV (P : Program) (d : Nat) (xs ys : Array Value) : List Field → Option Bool
  | [] => some true
  | f :: fs =>
    if f.name ≠ "_" then
      (pureV P (part f.type xs f.offset)).bind fun a => (pureV P (part f.type ys f.offset)).bind fun b => (pureV P (Op.equalIn d f.type a b)).bind fun r => if r then eqFieldsV P d xs ys fs else some false
    else eqFieldsV P d xs ys fs

theorem pv_equal_struct (d : Nat) {t : TypeId} (xs ys : Array Value) {fs : Array Field} (ht : P.underlying t = some (.struct fs)) (hp : P.stoodInHeld t = false) :
    pureV P (Op.equalIn (d + 1) t (.agg xs) (.agg ys)) = eqFieldsV P d xs ys fs.toList := by
  simp only [Op.equalIn, pv_bind, pv_underlying ht, Option.bind_some, pv_program, hp, Bool.false_eq_true, if_false]
  rw [← Array.forIn_toList]
  generalize fs.toList = l
  clear ht
  induction l with
  | nil => simp [eqFieldsV, pv_pure]
  | cons f l ih =>
    simp only [List.forIn_cons, eqFieldsV]
    split
    · simp only [pv_bind]
      cases h1 : pureV P (part f.type xs f.offset) with
      | none => simp
      | some a =>
        cases h2 : pureV P (part f.type ys f.offset) with
        | none => simp
        | some b =>
          cases h3 : pureV P (Op.equalIn d f.type a b) with
          | none => simp [h3]
          | some r =>
            cases r
            · simp [h3, pv_pure]
            · simp only [Option.bind_some, h3, Bool.not_true, Bool.false_eq_true, if_false, if_true, pv_pure]
              exact ih
    · simp only [pv_pure, pv_bind, Option.bind_some]
      exact ih

theorem ef_nil (d : Nat) (xs ys : Array Value) : eqFieldsV P d xs ys [] = some true := rfl
theorem ef_cons {d : Nat} {xs ys : Array Value} {f : Field} {fs : List Field} {a b : Value} {r s : Bool} (hn : f.name ≠ "_") (ha : pureV P (part f.type xs f.offset) = some a) (hb : pureV P (part f.type ys f.offset) = some b) (hr : pureV P (Op.equalIn d f.type a b) = some r)
    (hs : eqFieldsV P d xs ys fs = some s) : eqFieldsV P d xs ys (f :: fs) = some (r && s) := by
  simp only [eqFieldsV, if_pos hn, ha, hb, hr, hs, Option.bind_some]
  cases r <;> rfl

theorem pv_guard_agg {op : BinOp} {t : TypeId} {x y : Operand} {xs ys : Array Value} (hm : P.eqGuardType P.depth t = false) : pureV P (eqGuard op t x y (.agg xs) (.agg ys)) = some () := by
  cases op <;> simp [eqGuard, pv_bind, pv_program, hm, pv_pure]
theorem bv_eq_struct {t : TypeId} {x y : Operand} {xs ys : Array Value} {r : Bool} (hx : flatV (.agg xs) = true) (hy : flatV (.agg ys) = true) (hm : P.eqGuardType P.depth t = false) (h : pureV P (Op.equalIn 10000 t (.agg xs) (.agg ys)) = some r) :
    binV P .eql t x y (some (.agg xs)) (some (.agg ys)) = some (.bool r) := by
  simp only [binV, hx, hy, Bool.and_self, if_true, pureF, pv_bind, pv_guard_agg hm, Option.bind_some, binOp]
  have : pureV P (Op.equal t (.agg xs) (.agg ys)) = some r := h
  simp [this, pv_pure, flatV, atom]
theorem bv_ne_struct {t : TypeId} {x y : Operand} {xs ys : Array Value} {r : Bool} (hx : flatV (.agg xs) = true) (hy : flatV (.agg ys) = true) (hm : P.eqGuardType P.depth t = false) (h : pureV P (Op.equalIn 10000 t (.agg xs) (.agg ys)) = some r) :
    binV P .neq t x y (some (.agg xs)) (some (.agg ys)) = some (.bool (!r)) := by
  simp only [binV, hx, hy, Bool.and_self, if_true, pureF, pv_bind, pv_guard_agg hm, Option.bind_some, binOp]
  have : pureV P (Op.equal t (.agg xs) (.agg ys)) = some r := h
  simp [this, pv_pure, flatV, atom]
theorem pv_equal_bool (d : Nat) {t : TypeId} (h : P.underlying t = some .bool) (a b : Bool) : pureV P (Op.equalIn (d + 1) t (.bool a) (.bool b)) = some (a == b) := by simp [Op.equalIn, pv_bind, pv_underlying h, pv_pure]
theorem bv_eqb {t : TypeId} {x y : Operand} (h : P.underlying t = some .bool) (a b : Bool) : binV P .eql t x y (some (.bool a)) (some (.bool b)) = some (.bool (a == b)) := by
  have h2 : pureV P (Op.equal t (.bool a) (.bool b)) = some (a == b) := pv_equal_bool 9999 h a b
  have h3 : eqGuard .eql t x y (.bool a) (.bool b) = Sem.pure () := guard_bool ..
  simp only [binV, flatV, atom, Bool.and_self, if_true, pureF, pv_bind, h3, pureV, Option.bind_some, binOp]
  simp [h2, pv_pure, flatV, atom]
theorem bv_neb {t : TypeId} {x y : Operand} (h : P.underlying t = some .bool) (a b : Bool) : binV P .neq t x y (some (.bool a)) (some (.bool b)) = some (.bool (!(a == b))) := by
  have h2 : pureV P (Op.equal t (.bool a) (.bool b)) = some (a == b) := pv_equal_bool 9999 h a b
  have h3 : eqGuard .neq t x y (.bool a) (.bool b) = Sem.pure () := guard_bool ..
  simp only [binV, flatV, atom, Bool.and_self, if_true, pureF, pv_bind, h3, pureV, Option.bind_some, binOp]
  simp [h2, pv_pure, flatV, atom]
end

theorem St.le.var (st : St) (b b' : Blk) : st.le ((st.alloc b).set st.next b') :=
  ⟨Nat.le_succ _, fun i hi => by rw [set_ne _ _ (by omega), alloc_ne _ _ (by omega)]⟩
theorem beq_dec (a b : Int) : (a == b) = decide (a = b) := by rw [Bool.eq_iff_iff]; simp

/-! ### Truths -/
def guardB (w : Bool) (v : Option Value) : Option Bool := match v with | some (.bool b) => some (b == w) | some (.tuple _) => some false | _ => none
theorem go_guard {env : Env} {t : Nat} {w : Bool} : guardOf env (some (t, w)) = guardB w (env.lookup t) := by
  simp only [guardOf, guardB]
  cases env.lookup t with
  | none => rfl
  | some v => cases v <;> rfl
theorem gb_t (b : Bool) : guardB true (some (.bool b)) = some b := by cases b <;> rfl
theorem gb_f (b : Bool) : guardB false (some (.bool b)) = some (!b) := by cases b <;> rfl
theorem gb_undef (w : Bool) (vs : Array Value) : guardB w (some (.tuple vs)) = some false := rfl
theorem gb_undef' (w : Bool) : guardB w (some undef) = some false := rfl
end Go.Proofs.Ytnndjlgkhfinjaa.V
