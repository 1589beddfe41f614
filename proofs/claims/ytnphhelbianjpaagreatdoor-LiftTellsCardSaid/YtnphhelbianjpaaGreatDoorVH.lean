/-
  The semantics of trees T: a machine that walks, maps, rows, arguments.
-/
import Derived.Test.YtnphhelbianjpaaGreatDoorVG
set_option linter.all false
set_option linter.unusedSimpArgs false
set_option linter.unusedVariables false
set_option linter.unnecessarySimpa false
namespace Go.Proofs.YtnphhelbianjpaaGreatDoor.V
open Go Go.RowKit

inductive Fr where
 | seq (b : S)
 | blk (i : Nat)
 | goal (K : TK)

def post (C : Cx) : List Fr → TQ → TQ
 | [], Q => Q
 | .seq b :: r, Q => thenT (fun env σ => TwS C b (post C r Q) env σ) (post C r Q)
 | .blk i :: r, Q => inBlockT i (post C r Q)
 | .goal K :: r, Q => thenT K (post C r Q)

inductive Cur where
 | ops (rs : List ROp)
 | stm (s : S)
 | out (e : Exit)

@[reducible] def At (C : Cx) (Q : TQ) (c : Cur) (stk : List Fr) (env : TEnv) (σ : TS) : Prop := match c with
 | .ops rs => TwR C rs (post C stk Q .normal) env σ
 | .stm s => TwS C s (post C stk Q) env σ
 | .out e => post C stk Q e env σ

inductive Cfg where
 | cfg (c : Cur) (stk : List Fr) (env : TEnv) (σ : TS)
 | bad
def CAt (C : Cx) (Q : TQ) : Cfg → Prop
 | .cfg c stk env σ => At C Q c stk env σ
 | .bad => False

def stepOp (op : ROp) (env : TEnv) (σ : TS) : Option (TEnv × TS) := match op with
 | ⟨some d, none, .light l, _, _⟩ => match tev env σ l with
  | some x => some ((d, x) :: env, σ)
  | none => none
 | ⟨some d, none, .alloc A, _, _⟩ => match tevA env A with
  | some (o, mk) => some ((d, mk σ.next) :: env, σ.alloc o)
  | none => none
 | ⟨d, none, .heavy (.store n x v), _, ks⟩ => match tO env x with
  | some (.p k off) => match σ.get k with
   | some (.cells cs ty) => match tO env v with
    | some a => match cellsT a with
     | some ys => match putAt off ys cs with
      | some r => bif Nat.beq ys.length n then (bif keepAllT env σ k off (off + n) ks then some (putT d tundef env, σ.set k (.cells r ty)) else none) else none
      | none => none
     | none => none
    | none => none
   | _ => none
  | _ => none
 | ⟨d, some (t, _), _, _, _⟩ => match look t env with
  | some (.tup _) => some (putT d tundef env, σ)
  | _ => none
 | _ => none

def stepE : Exit → Fr → Option Cur
 | .normal, .seq b => some (.stm b)
 | .normal, .blk _ => some (.out .normal)
 | .ret, .seq _ => some (.out .ret)
 | .ret, .blk _ => some (.out .ret)
 | .ret, .goal _ => some (.out .ret)
 | .exit j, .blk i => bif Nat.beq j i then some (.out .normal) else some (.out (.exit j))
 | .exit j, .seq _ => some (.out (.exit j))
 | .exit j, .goal _ => some (.out (.exit j))
 | _, _ => none

def stepC (c : Cur) (stk : List Fr) (env : TEnv) (σ : TS) : Option Cfg := match c with
 | .ops [] => some (.cfg (.out .normal) stk env σ)
 | .ops (op :: rest) => match stepOp op env σ with
  | some (env', σ') => some (.cfg (.ops rest) stk env' σ')
  | none => none
 | .stm s => match s with
  | .reg rs => some (.cfg (.ops rs) stk env σ)
  | .seq a b => some (.cfg (.stm a) (.seq b :: stk) env σ)
  | .block i a => some (.cfg (.stm a) (.blk i :: stk) env σ)
  | .nop => some (.cfg (.out .normal) stk env σ)
  | .ret => some (.cfg (.out .ret) stk env σ)
  | .exit i => some (.cfg (.out (.exit i)) stk env σ)
  | _ => none
 | .out e => match stk with
  | [] => none
  | f :: stk => match stepE e f with
   | some c => some (.cfg c stk env σ)
   | none => none

def mach : Nat → Cur → List Fr → TEnv → TS → Cfg
 | 0, c, stk, env, σ => .cfg c stk env σ
 | n + 1, c, stk, env, σ => match stepC c stk env σ with
  | some (.cfg c stk env σ) => mach n c stk env σ
  | some .bad => .bad
  | none => .cfg c stk env σ
def mach1 (n : Nat) (c : Cur) (stk : List Fr) (env : TEnv) (σ : TS) : Cfg := match stepC c stk env σ with
 | some (.cfg c stk env σ) => mach n c stk env σ
 | _ => .bad

section
variable {C : Cx} {Q : TQ}

theorem stepOp_sound {op : ROp} {rest : List ROp} {K : TK} {env env' : TEnv} {σ σ' : TS} (h : stepOp op env σ = some (env', σ')) (k : TwR C rest K env' σ') : TwR C (op :: rest) K env σ := by
 unfold stepOp at h
 split at h
 ·split at h
  ·rename_i x hx
   cases h
   exact tr_ev hx k
  ·cases h
 ·split at h
  ·rename_i o mk hx
   cases h
   exact tr_alloc hx k
  ·cases h
 ·split at h
  ·rename_i hx
   split at h
   ·rename_i hk
    split at h
    ·rename_i hv
     split at h
     ·rename_i ha
      split at h
      ·rename_i hr
       cases hn : Nat.beq _ _ with
       | false => rw [hn] at h; cases h
       | true =>
        rw [hn, cond_true] at h
        cases hks : keepAllT _ _ _ _ _ _ with
        | false => rw [hks] at h; cases h
        | true =>
         rw [hks, cond_true] at h
         cases h
         exact tr_store hx hk hv ha hn hr hks k
      ·cases h
     ·cases h
    ·cases h
   ·cases h
  ·cases h
 ·split at h
  ·rename_i hx
   cases h
   exact tr_guard_u hx k
  ·cases h
 ·cases h

theorem stepE_sound {e : Exit} {f : Fr} {stk : List Fr} {env : TEnv} {σ : TS} {c' : Cur} (h : stepE e f = some c') (k : At C Q c' stk env σ) : At C Q (.out e) (f :: stk) env σ := by
 unfold stepE at h
 split at h
 ·cases h; exact k
 ·cases h; exact k
 ·cases h; exact k
 ·cases h; exact k
 ·cases h; exact k
 ·rename_i j i
  cases hj : Nat.beq j i with
  | true =>
   rw [hj, cond_true] at h; cases h
   rw [Nat.eq_of_beq_eq_true hj]
   exact bl_hit k
  | false =>
   rw [hj, cond_false] at h; cases h
   exact bl_miss hj k
 ·cases h; exact k
 ·cases h; exact k
 ·cases h

theorem stepC_sound {c : Cur} {stk : List Fr} {env : TEnv} {σ : TS} {c' : Cfg} (h : stepC c stk env σ = some c') (k : CAt C Q c') : At C Q c stk env σ := by
 unfold stepC at h
 split at h
 ·cases h
  exact tr_nil k
 ·split at h
  ·rename_i hs
   cases h
   exact stepOp_sound hs k
  ·cases h
 ·split at h
  ·cases h; exact ts_reg k
  ·cases h
   exact ts_seq fun K hK hW => ts_mono (fun e env σ hq => by cases e with
    | normal => exact hK _ _ hq
    | _ => exact hq) k
  ·cases h; exact ts_block k
  ·cases h; exact ts_nop k
  ·cases h; exact ts_ret k
  ·cases h; exact ts_exit k
  ·cases h
 ·split at h
  ·cases h
  ·split at h
   ·rename_i hs
    cases h
    exact stepE_sound hs k
   ·cases h

theorem mach_sound : ∀ (n : Nat) {c : Cur} {stk : List Fr} {env : TEnv} {σ : TS}, CAt C Q (mach n c stk env σ) → At C Q c stk env σ
 | 0, _, _, _, _, k => k
 | n + 1, c, stk, env, σ, k => by
  unfold mach at k
  split at k
  ·rename_i hc
   exact stepC_sound hc (mach_sound n k)
  ·exact k.elim
  ·exact k

theorem go {c : Cur} {stk : List Fr} {env : TEnv} {σ : TS} {c' : Cur} {stk' : List Fr} {env' : TEnv} {σ' : TS} (h : mach1 1000 c stk env σ = .cfg c' stk' env' σ') (k : At C Q c' stk' env' σ') : At C Q c stk env σ := by
 unfold mach1 at h
 split at h
 ·rename_i h1
  refine stepC_sound h1 (mach_sound 1000 ?_)
  rw [h]
  exact k
 ·cases h
theorem goR {rs : List ROp} {stk : List Fr} {env : TEnv} {σ : TS} {c' : Cur} {stk' : List Fr} {env' : TEnv} {σ' : TS} (h : mach1 1000 (.ops rs) stk env σ = .cfg c' stk' env' σ') (k : At C Q c' stk' env' σ') : TwR C rs (post C stk Q .normal) env σ := go h k
theorem goS {s : S} {stk : List Fr} {env : TEnv} {σ : TS} {c' : Cur} {stk' : List Fr} {env' : TEnv} {σ' : TS} (h : mach1 1000 (.stm s) stk env σ = .cfg c' stk' env' σ') (k : At C Q c' stk' env' σ') : TwS C s (post C stk Q) env σ := go h k

theorem loopS {a : S} {stk : List Fr} {env : TEnv} {σ : TS} (I : Nat → TEnv → TS → Prop) (n : Nat) {env0 : TEnv} {σ0 : TS} (hw : Weak C env σ env0 σ0) (h0 : I n env0 σ0)
  (h : ∀ m env σ, I m env σ → At C Q (.stm a) (.goal (fun env' σ' => ∃ m' env2 σ2, m' < m ∧ Weak C env' σ' env2 σ2 ∧ I m' env2 σ2) :: stk) env σ) : TwS C (.loop a) (post C stk Q) env σ :=
 ts_loop I n hw h0 h
theorem again {I : Nat → TEnv → TS → Prop} {stk : List Fr} {env : TEnv} {σ : TS} {m m' : Nat} {env' : TEnv} {σ' : TS} (hm : m' < m) (hw : Weak C env σ env' σ') (h : I m' env' σ') :
  post C (.goal (fun env' σ' => ∃ m' env2 σ2, m' < m ∧ Weak C env' σ' env2 σ2 ∧ I m' env2 σ2) :: stk) Q .normal env σ := ⟨m', env', σ', hm, hw, h⟩

theorem goF {s : S} {env : TEnv} {σ : TS} (k : At C Q (.stm s) [] env σ) : TwS C s Q env σ := k
end
end Go.Proofs.YtnphhelbianjpaaGreatDoor.V
namespace Go.Proofs.YtnphhelbianjpaaGreatDoor.V
open Go Go.RowKit

def frozT : TV → Bool
 | .tup cs => frozAll cs
 | x => frozV x
theorem Fz.frT {σ : TS} {x : TV} (h : frozT x = true) : Fz σ x x := by
 cases x with
 | tup cs =>
  have := frozAll_mem h
  refine .tupL ⟨rfl, fun i x y hx hy => ?_⟩
  rw [hx] at hy; cases hy
  exact .fr (this x (List.mem_of_getElem? hx))
 | _ => exact .fr h
theorem Fz.eqT {σ : TS} {x y : TV} (hf : frozT x = true) (h : x = y) : Fz σ x y := by subst h; exact .frT hf
section
variable {C : Cx} {Q : TQ} {env : TEnv} {σ : TS}
theorem tret1 {rs : List (Nat × Option (Nat × Bool))} {R : TV → TS → Prop} {v : TV} (hl : tresAll env σ rs = some [v]) (h : R v σ) : At C (retT rs R) (.out .ret) [] env σ := ⟨_, hl, h⟩
theorem tretN {rs : List (Nat × Option (Nat × Bool))} {R : TV → TS → Prop} {v w : TV} {l : List TV} (hl : tresAll env σ rs = some (v :: w :: l)) (h : R (.tup (v :: w :: l)) σ) : At C (retT rs R) (.out .ret) [] env σ := ⟨_, hl, h⟩
end
end Go.Proofs.YtnphhelbianjpaaGreatDoor.V
namespace Go.Proofs.YtnphhelbianjpaaGreatDoor.V
open Go Go.RowKit

def sameL {α : Type} (e : α → α → Bool) : List α → List α → Bool
 | [], [] => true
 | x :: a, y :: b => e x y && sameL e a b
 | _, _ => false
theorem ix {α : Type} {pre : List α} {x : α} {r : List α} : (pre ++ x :: r)[pre.length]? = some x := by simp
section
variable {C : Cx} {α : Type}
attribute [local irreducible] TwS TwR thenT inBlockT retT sameL
end
end Go.Proofs.YtnphhelbianjpaaGreatDoor.V
namespace Go.Proofs.YtnphhelbianjpaaGreatDoor.V
open Go Go.RowKit

def mapG {α : Type} (g : α → TV) (l : List (ByteArray × α)) : List (Value × TV) := l.map fun e => (.string e.1, g e.2)
def lkp {α : Type} (s : ByteArray) : List (ByteArray × α) → Option α
 | [] => none
 | e :: l => if s = e.1 then some e.2 else lkp s l
theorem findS_lkp {α : Type} (s : ByteArray) : ∀ (l : List (ByteArray × α)) (i : Nat), (findS s l i).map Prod.snd = lkp s l
 | [], _ => rfl
 | e :: l, i => by
  simp only [findS, lkp]
  split
  ·rfl
  ·exact findS_lkp s l (i + 1)
theorem findK_G {α : Type} (s : ByteArray) (g : α → TV) (l : List (ByteArray × α)) : findK true (.string s) (mapG g l) 0 = some ((findS s l 0).map fun r => (r.1, g r.2)) := findK_str s g l 0
def setL (l : List ByteArray) : List (ByteArray × Unit) := l.map fun s => (s, ())
def mapB (l : List ByteArray) : List (Value × TV) := mapG (fun _ => tB true) (setL l)
def hasB (s : ByteArray) : List ByteArray → Bool
 | [] => false
 | x :: l => decide (s = x) || hasB s l
theorem hasB_iff {s : ByteArray} : ∀ {l : List ByteArray}, hasB s l = true ↔ s ∈ l
 | [] => by simp [hasB]
 | x :: l => by simp [hasB, hasB_iff (l := l)]
theorem hasB_app (s : ByteArray) : ∀ (l r : List ByteArray), hasB s (l ++ r) = (hasB s l || hasB s r)
 | [], r => by simp [hasB]
 | x :: l, r => by simp [hasB, hasB_app s l r, Bool.or_assoc]
theorem lkp_set (s : ByteArray) : ∀ (l : List ByteArray), lkp s (setL l) = bif hasB s l then some () else none
 | [] => rfl
 | x :: l => by
  have ih := lkp_set s l
  simp only [setL] at ih
  simp only [setL, List.map_cons, lkp, ih, hasB]
  by_cases h : s = x <;> simp [h]

section
variable {P : Program} {w0 : World} {env : TEnv} {σ : TS}
def orZ {α : Type} (g : α → TV) (zero : Value) : Option α → TV
 | some x => g x
 | none => toTV zero
theorem lookR_G {α : Type} (g : α → TV) (zero : Value) (s : ByteArray) (l : List (ByteArray × α)) : lookR false zero ((findS s l 0).map fun r => (r.1, g r.2)) = orZ g zero (lkp s l) := by
 rw [← findS_lkp s l 0]
 cases findS s l 0 <;> rfl
theorem tl_mapM {α : Type} {g : α → TV} {l : List (ByteArray × α)} {zero : Value} {m ko : Operand} {k : Nat} {s : ByteArray} (hm : tO env m = some (.m k)) (hk : σ.get k = some (.map (mapG g l))) (hko : tO env ko = some (.v (.string s))) (hz : flatV zero = true) :
  TL P w0 env σ (.look true zero false m ko) (orZ g zero (lkp s l)) := by
 have := tl_lookM (P := P) (w0 := w0) (ok := false) hm hk hko hz (findK_G s g l)
 rwa [lookR_G] at this
theorem tl_mapF {α : Type} {g : α → TV} {l : List (ByteArray × α)} {zero : Value} {m ko : Operand} {s : ByteArray} (hm : tO env m = some (.fm (mapG g l))) (hko : tO env ko = some (.v (.string s))) (hz : flatV zero = true) :
  TL P w0 env σ (.look true zero false m ko) (orZ g zero (lkp s l)) := by
 have := tl_lookF (P := P) (w0 := w0) (σ := σ) (ok := false) hm hko hz (findK_G s g l)
 rwa [lookR_G] at this
theorem orZ_set (s : ByteArray) (l : List ByteArray) : orZ (fun _ => tB true) (.bool false) (lkp s (setL l)) = tB (hasB s l) := by
 rw [lkp_set]
 cases hasB s l <;> rfl
theorem tl_mapB {l : List ByteArray} {m ko : Operand} {k : Nat} {s : ByteArray} (hm : tO env m = some (.m k)) (hk : σ.get k = some (.map (mapB l))) (hko : tO env ko = some (.v (.string s))) :
  TL P w0 env σ (.look true (.bool false) false m ko) (tB (hasB s l)) := by
 have := tl_mapM (P := P) (w0 := w0) (zero := .bool false) hm hk hko rfl
 rwa [orZ_set] at this
end
section
variable {C : Cx} {K : TK} {env : TEnv} {σ : TS} {rest : List ROp} {d : Option Nat} {q : Bool} {ks : List LOp}
theorem putK_new {α : Type} (g : α → TV) (l : List (ByteArray × α)) (s : ByteArray) (x : α) (hn : lkp s l = none) : putK true (.string s) (g x) (mapG g l) = some (mapG g (l ++ [(s, x)])) := by
 have h := findS_lkp s l 0
 rw [hn] at h
 unfold putK
 rw [findK_G]
 cases hf : findS s l 0 with
 | some r => rw [hf] at h; cases h
 | none => simp [mapG]
theorem tr_mapadd {α : Type} {g : α → TV} {l : List (ByteArray × α)} {m ko x : Operand} {k : Nat} {s : ByteArray} {u : α} (hm : tO env m = some (.m k)) (hk : σ.get k = some (.map (mapG g l))) (hko : tO env ko = some (.v (.string s))) (hx : tO env x = some (g u)) (hn : lkp s l = none)
  (hks : keepAllT env σ k 0 0 ks = true) (h : TwR C rest K (putT d tundef env) (σ.set k (.map (mapG g (l ++ [(s, u)]))))) : TwR C (⟨d, none, .heavy (.mapset true m ko x), q, ks⟩ :: rest) K env σ :=
 tr_mapset hm hk hko rfl hx (putK_new g l s u hn) hks h
theorem tr_mapaddB {l : List ByteArray} {m ko x : Operand} {k : Nat} {s : ByteArray} (hm : tO env m = some (.m k)) (hk : σ.get k = some (.map (mapB l))) (hko : tO env ko = some (.v (.string s))) (hx : tO env x = some (tB true)) (hn : hasB s l = false)
  (hks : keepAllT env σ k 0 0 ks = true) (h : TwR C rest K (putT d tundef env) (σ.set k (.map (mapB (l ++ [s]))))) : TwR C (⟨d, none, .heavy (.mapset true m ko x), q, ks⟩ :: rest) K env σ := by
 refine tr_mapadd (g := fun _ => tB true) (u := ()) hm hk hko hx (by rw [lkp_set, hn]; rfl) hks ?_
 have : mapG (fun _ => tB true) (setL l ++ [(s, ())]) = mapB (l ++ [s]) := by simp [mapB, setL]
 rw [this]
 exact h
end
theorem RenO.mB {bk : List (Nat × Nat)} (l : List ByteArray) : RenO bk (.map (mapB l)) (.map (mapB l)) := .map _ fun k x h => by
 simp only [Go.Proofs.YtnphhelbianjpaaGreatDoor.V.mapB, mapG, List.mem_map] at h
 obtain ⟨a, _, e⟩ := h
 cases e; rfl
theorem RenO.mapGi {bk : List (Nat × Nat)} {α : Type} {g : α → TV} (hg : ∀ x, frozV (g x) = true) {l l' : List (ByteArray × α)} (e : l = l') : RenO bk (.map (mapG g l)) (.map (mapG g l')) := by
 subst e
 refine .map _ fun k x h => ?_
 simp only [mapG, List.mem_map] at h
 obtain ⟨a, _, e⟩ := h
 cases e; exact hg _
end Go.Proofs.YtnphhelbianjpaaGreatDoor.V
namespace Go.Proofs.YtnphhelbianjpaaGreatDoor.V
open Go Go.RowKit
section
variable {C : Cx} {K : TK} {env : TEnv} {σ : TS} {rest : List ROp} {d : Nat} {q : Bool} {ks : List LOp}

def GenT (C : Cx) (env : TEnv) (σ : TS) (op : HOp) (ty : TypeId) (sz bytes : Nat) (s : Operand) (ys : List (List TV)) : Prop :=
 ∀ venv st Φ ν, TSim C.w0 st Φ ν σ → TE C.w0 st Φ ν env venv → ∃ vy, (∀ v, evalO venv s = some v → op.eval C.w0 venv st = appendV C.w0.heap.size st ty sz bytes v ys.length vy) ∧ RelF C.w0 st Φ ys.flatten vy ∧ ∀ y ∈ ys, y.length = sz
theorem gen_zero {ty : TypeId} {sz bytes : Nat} {zero : List Value} {s x : Operand} {m : Int} (hx : tO env x = some (.v (.int .i64 m))) (hm : 0 ≤ m ∧ m < 9223372036854775808) (hz : zero.all atom = true) (hsz : zero.length = sz) :
  GenT C env σ (.appendZ ty sz bytes zero s x) ty sz bytes s (List.replicate m.toNat (zero.map .v)) := by
 intro venv st Φ ν hs he
 obtain ⟨_, h1, h2⟩ := tO_sound he hx
 obtain ⟨rfl, _⟩ := h2.v_inv
 refine ⟨zeros m.toNat zero, fun v hv => ?_, .replicate hz _, ?_⟩
 ·simp only [HOp.eval, hv, h1]
  rw [if_pos hm, List.length_replicate]
 ·intro y hy
  rw [(List.mem_replicate.1 hy).2, lM, hsz]
theorem tr_appG {op : HOp} {ty : TypeId} {sz bytes : Nat} {s : Operand} {k n : Nat} {xs ys : List (List TV)} (hs : tO env s = some (.s k sz 0 n true)) (hk : σ.get k = some (.rows sz xs ty)) (hn : n = xs.length) (hx : GenT C env σ op ty sz bytes s ys)
  (hb : (n + ys.length) * bytes ≤ 140737488355328 ∧ n + ys.length < 9223372036854775807) (hks : keepAllT env σ k 0 0 ks = true)
  (h : TwR C rest K ((d, .s σ.next sz 0 (n + ys.length) true) :: env) ((σ.del k).alloc (.rows sz (xs ++ ys) ty))) : TwR C (⟨some d, none, .heavy op, q, ks⟩ :: rest) K env σ := by
 intro venv st Φ ν hr
 refine ⟨fun _ => ?_, fun h => by simp at h⟩
 obtain ⟨vs0, h1, h2⟩ := tO_sound hr.env hs
 obtain ⟨vy, hE, h5, h6⟩ := hx venv st Φ ν hr.sim hr.env
 have hkeep0 : ∀ l ∈ ks, ∀ u, l.eval C.P C.w0 venv st = some u → l.eval C.P C.w0 venv st = some u := fun _ _ _ h => h
 rcases h2.s_inv with ⟨hv, _, hn0, rfl⟩ | ⟨b, hbk, rfl⟩
 ·-- it is nil
  subst hn0
  have hxs : xs = [] := List.length_eq_zero_iff.1 hn.symm
  subst hxs
  rw [Nat.zero_add] at hb
  by_cases hm : ys.length = 0
  ·have he : op.eval C.w0 venv st = some (.slice none 0 0, st) := by
    simp only [hE _ h1, appendV]
    rw [if_pos ⟨trivial, trivial, by omega⟩, if_pos hm]
   simp only [COp.step, he]
   refine ⟨hkeep0, ?_⟩
   have hy := List.length_eq_zero_iff.1 hm
   subst hy
   exact h _ _ _ _ ((hr.move hk hv).put (.sn _ _ _ (upN_self ..)) d)
  ·have he : op.eval C.w0 venv st = some (.slice (some ⟨st.next, 0, none⟩) ys.length sz, st.alloc (.cells vy ty)) := by
    simp only [hE _ h1, appendV]
    rw [if_pos ⟨trivial, trivial, by omega⟩, if_neg hm]
   simp only [COp.step, he]
   refine ⟨keepAll_sound hr.sim hr.env (.inl (by rw [hk]; rfl)) (fun c hc _ => alloc_ne _ _ (Nat.ne_of_lt hc)) (fun b o n _ _ _ hn => by rw [hv] at hn; cases hn) hks, ?_⟩
   have hcr : CRel C.w0 st Φ ν (.rows sz ([] ++ ys) ty) (.cells vy ty) := ⟨rfl, h6, by simp; omega, h5⟩
   have hr' : RelT C env (σ.del k) venv st Φ ν := ⟨hr.sim.drop k, hr.env, hr.next, hr.frame, hr.mine, hr.pin, hr.phi0, hr.phi⟩
   refine h _ _ _ _ ((hr'.alloc hcr).put ?_ d)
   have := TRel.s (w0 := C.w0) (st := st.alloc (.cells vy ty)) (Φ := Φ) (ν := upN ν σ.next (some st.next)) σ.next sz 0 ys.length true st.next (upN_self ..)
   rw [Nat.zero_mul] at this
   rw [Nat.zero_add]; exact this
 ·rcases hr.sim.has hk with ⟨q1, _⟩ | ⟨b', bk, q1, q2, q3⟩
  ·rw [hbk] at q1; cases q1
  rw [hbk] at q1; cases q1
  cases bk with
  | cells vs ty' =>
   obtain ⟨rfl, q4, q5, q6⟩ := q3
   have hlo := (hr.sim.lt hbk).1
   have hnb : ¬ b < C.w0.heap.size := by omega
   by_cases hm : ys.length = 0
   ·have he : op.eval C.w0 venv st = some (.slice (some ⟨b, 0 * sz, none⟩) n sz, st) := by
     simp only [hE _ h1, appendV, cond_true]
     rw [if_neg hnb, if_pos ⟨trivial, trivial, hb⟩, if_pos hm]
    simp only [COp.step, he]
    refine ⟨hkeep0, ?_⟩
    have hy := List.length_eq_zero_iff.1 hm
    subst hy
    rw [List.append_nil] at h
    exact h _ _ _ _ ((hr.move hk hbk).put (.s _ _ _ _ _ _ (upN_self ..)) d)
   ·have hl := q6.len
    rw [flat_len q4] at hl
    have he : op.eval C.w0 venv st = some (.slice (some ⟨st.next, 0, none⟩) (n + ys.length) sz, (st.kill b).alloc (.cells (vs ++ vy) ty')) := by
     simp only [hE _ h1, appendV, cond_true]
     rw [if_neg hnb, if_pos ⟨trivial, trivial, hb⟩, if_neg hm]
     simp only [q2]
     rw [if_pos ⟨trivial, by rw [hn]; omega⟩]
     simp
    simp only [COp.step, he]
    refine ⟨keepAll_sound hr.sim hr.env (.inl (by rw [hk]; rfl)) (fun c hc hne => ?_) (fun b o n hcs => by obtain ⟨_, _, hcs⟩ := hcs; rw [hk] at hcs; cases hcs) hks, ?_⟩
    ·rw [alloc_ne _ _ (by have : (st.kill b).next = st.next := rfl; omega), kill_ne _ (fun e => hne (by rw [e]; exact hbk))]
    ·have hn' := hr.sim.npf k b (by rw [hk]; rfl) hbk
     have hs' : ∀ c, Φ c → (st.kill b).blk c = st.blk c := fun c hc => kill_ne _ (fun e => hn' (e ▸ hc))
     have hcr : CRel C.w0 (st.kill b) Φ ν (.rows sz (xs ++ ys) ty') (.cells (vs ++ vy) ty') := by
      refine ⟨rfl, ?_, by rw [lA]; omega, ?_⟩
      ·intro z hz
       rcases List.mem_append.1 hz with h | h
       ·exact q4 z h
       ·exact h6 z h
      ·rw [List.flatten_append]
       exact (flat_app q6 h5).stable (fun _ h => h) hs'
     refine h _ _ _ _ (((hr.kill hk hbk).alloc hcr).put ?_ d)
     have := TRel.s (w0 := C.w0) (st := (st.kill b).alloc (.cells (vs ++ vy) ty')) (Φ := Φ) (ν := upN ν (σ.del k).next (some (st.kill b).next)) σ.next sz 0 (n + ys.length) true st.next (upN_self ..)
     rwa [Nat.zero_mul] at this
  | _ => exact q3.elim

theorem tr_appendZ {ty : TypeId} {sz bytes : Nat} {zero : List Value} {s x : Operand} {k n : Nat} {m : Int} {xs : List (List TV)} (hs : tO env s = some (.s k sz 0 n true)) (hk : σ.get k = some (.rows sz xs ty)) (hn : n = xs.length) (hx : tO env x = some (.v (.int .i64 m)))
  (hm : 0 ≤ m ∧ m < 9223372036854775808) (hz : zero.all atom = true) (hsz : zero.length = sz) (hb : (n + m.toNat) * bytes ≤ 140737488355328 ∧ n + m.toNat < 9223372036854775807) (hks : keepAllT env σ k 0 0 ks = true)
  (h : TwR C rest K ((d, .s σ.next sz 0 (n + m.toNat) true) :: env) ((σ.del k).alloc (.rows sz (xs ++ List.replicate m.toNat (zero.map .v)) ty))) : TwR C (⟨some d, none, .heavy (.appendZ ty sz bytes zero s x), q, ks⟩ :: rest) K env σ := by
 refine tr_appG hs hk hn (gen_zero hx hm hz hsz) ?_ hks ?_
 ·rw [List.length_replicate]; exact hb
 ·rw [List.length_replicate]; exact h
theorem tr_appF {ty : TypeId} {sz bytes : Nat} {s x : Operand} {k n : Nat} {xs ys : List (List TV)} (hs : tO env s = some (.s k sz 0 n true)) (hk : σ.get k = some (.rows sz xs ty)) (hn : n = xs.length) (hx : SrcT env σ x sz ys)
  (hb : (n + ys.length) * bytes ≤ 140737488355328 ∧ n + ys.length < 9223372036854775807) (hks : keepAllT env σ k 0 0 ks = true)
  (h : TwR C rest K ((d, .lst sz (xs ++ ys)) :: (d, .s σ.next sz 0 (n + ys.length) true) :: env) (((σ.del k).alloc (.rows sz (xs ++ ys) ty)).del σ.next)) : TwR C (⟨some d, none, .heavy (.append ty sz bytes s x), q, ks⟩ :: rest) K env σ := by
 refine tr_append hs hk hn hx hb hks (tr_weak (w_freeze (d := d) (k := σ.next) (sz := sz) (xs := xs ++ ys) (ty := ty) (x := .s σ.next sz 0 (n + ys.length) true) (y := .lst sz (xs ++ ys)) (by rw [look_cons, if_pos rfl]) ?_ (.s _ _ (by rw [lA, hn]))) h)
 show TS.get (TS.alloc (σ.del k) _) σ.next = _
 rw [TS.get_alloc, if_pos (show σ.next = (σ.del k).next from rfl)]
theorem w_virtC {j i : Nat} (sz : Nat) (ty : TypeId) {cs : List TV} {tc : TypeId} (hj : σ.get j = some (.cells cs tc)) (hi : cs[i]? = some (.v (.slice none 0 0))) :
  Weak C env σ env ((σ.alloc (.rows sz [] ty)).set j (.cells (cs.set i (.s σ.next sz 0 0 true)) tc)) := by
 intro venv st Φ ν hr
 have hr' := hr.virt sz ty
 have hs := hr'.sim
 have hjn : j ≠ σ.next := by
  intro e
  have h1 := hr.sim.obj j _ hj
  rw [e, hr.sim.dom _ (Nat.le_refl _)] at h1
  exact h1
 have hj' : (σ.alloc (.rows sz [] ty)).get j = some (.cells cs tc) := by rw [TS.get_alloc, if_neg hjn]; exact hj
 refine ⟨Φ, _, ⟨hs.ok, ?_, hs.own, ?_, hs.fro, hs.dom, ?_⟩, hr'.env, hr'.next, hr'.frame, hr'.mine, hr'.pin, hr'.phi0, hr'.phi⟩
 ·intro a b c h1 h2
  rw [TS.get_set] at h1 h2
  refine hs.inj a b c ?_ ?_
  ·split at h1
   ·subst a; rw [hj']; rfl
   ·exact h1
  ·split at h2
   ·subst b; rw [hj']; rfl
   ·exact h2
 ·intro a c h1
  rw [TS.get_set] at h1
  refine hs.npf a c ?_
  split at h1
  ·subst a; rw [hj']; rfl
  ·exact h1
 ·intro a o ha
  rw [TS.get_set] at ha
  by_cases e : a = j
  ·subst e
   rw [if_pos rfl, hj'] at ha; cases ha
   rcases hs.has hj' with ⟨_, _, _, q2⟩ | ⟨b, bk, q1, q2, q3⟩
   ·cases q2
   ·rw [q1]
    refine ⟨bk, q2, ?_⟩
    cases bk with
    | cells vs ty' =>
     refine ⟨q3.1, by rw [List.length_set]; exact q3.2.len, fun p z u hz hu => ?_⟩
     rw [List.getElem?_set] at hz
     split at hz
     ·rename_i hp
      subst hp
      split at hz
      ·cases hz
       obtain ⟨rfl, _⟩ := (q3.2.rel i _ u hi hu).v_inv
       exact .sn _ _ _ (upN_self ..)
      ·cases hz
     ·exact q3.2.rel p z u hz hu
    | _ => exact q3.elim
  ·rw [if_neg e] at ha
   exact hs.obj a o ha
end
end Go.Proofs.YtnphhelbianjpaaGreatDoor.V
namespace Go.Proofs.YtnphhelbianjpaaGreatDoor.V
open Go Go.RowKit
section
variable {C : Cx} {env : TEnv} {σ : TS}
theorem w_freezeM {d k : Nat} {es : List (Value × TV)} (hd : look d env = some (.m k)) (hk : σ.get k = some (.map es)) (hf : ∀ (k : Value) (x : TV), (k, x) ∈ es → frozV x = true) : Weak C env σ ((d, .fm es) :: env) (σ.del k) := by
 intro venv st Φ ν hr
 have hs := hr.sim
 have hst : ∀ {x v}, TRel C.w0 st Φ ν x v → TRel C.w0 st (fun b => Φ b ∨ ν k = some (some b)) ν x v := fun hv => hv.stable (fun _ h => .inl h) (fun _ _ => rfl) (fun _ _ h => h)
 have henv : TE C.w0 st (fun b => Φ b ∨ ν k = some (some b)) ν ((d, .fm es) :: env) venv := by
  intro t z ht
  rw [look_cons] at ht
  split at ht
  ·rename_i e
   cases ht; subst e
   obtain ⟨v, h1, h2⟩ := hr.env t _ hd
   refine ⟨v, h1, .f _ _ ?_⟩
   obtain ⟨b, hb, rfl⟩ := h2.m_inv
   rcases hs.has hk with ⟨_, _, _, q2⟩ | ⟨b', bk, q1, q2, q3⟩
   ·cases q2
   ·rw [hb] at q1; cases q1
    cases bk with
    | map vs =>
     refine .fm es b vs (.inr hb) q2 q3.1 (fun i k' x hx => ?_) (fun i k1 k2 x y hx hy => ?_)
     ·obtain ⟨y, h1, _⟩ := q3.2 i k' x hx
      exact ⟨k', y, h1, rfl⟩
     ·obtain ⟨y', h1, h2⟩ := q3.2 i k1 x hx
      rw [hy] at h1; cases h1
      exact (frozV_rel (hf k1 x (List.mem_of_getElem? hx)) h2).stable (fun _ h => .inl h) fun _ _ => rfl
    | _ => exact q3.elim
  ·obtain ⟨v, h1, h2⟩ := hr.env t z ht
   exact ⟨v, h1, hst h2⟩
 refine ⟨fun b => Φ b ∨ ν k = some (some b), ν, ?_, henv, hr.next, hr.frame, hr.mine, hr.pin, fun b hb => .inl (hr.phi0 b hb), ?_⟩
 ·cases hv : ν k with
  | none => exact absurd (hs.obj k _ hk) (by rw [hv]; exact id)
  | some r =>
   cases r with
   | none =>
    have h1 := hs.drop k
    have e : (fun b => Φ b ∨ (some none : Option (Option Nat)) = some (some b)) = Φ := by funext b; simp
    rw [e]; exact h1
   | some b =>
    have h1 := hs.freeze (by rw [hk]; rfl) hv
    have e : (fun c => Φ c ∨ (some (some b) : Option (Option Nat)) = some (some c)) = fun c => Φ c ∨ c = b := by
     funext c; simp only [Option.some.injEq, eq_comm]
    rw [e]; exact h1
 ·rintro b (h | h)
  ·exact hr.phi b h
  ·exact .inr (hr.mine k b h)
theorem mapG_froz {α : Type} {g : α → TV} (hg : ∀ x, frozV (g x) = true) (l : List (ByteArray × α)) : ∀ (k : Value) (x : TV), (k, x) ∈ mapG g l → frozV x = true := by
 intro k x h
 simp only [mapG, List.mem_map] at h
 obtain ⟨a, _, e⟩ := h
 cases e; exact hg _
end
end Go.Proofs.YtnphhelbianjpaaGreatDoor.V
namespace Go.Proofs.YtnphhelbianjpaaGreatDoor.V
open Go Go.RowKit
section
variable {C : Cx} {K : TK} {env : TEnv} {σ : TS} {rest : List ROp} {d : Nat} {q : Bool} {ks : List LOp}
def ZRel (ys : List TV) (zero : List Value) : Prop := ∀ (w0 : World) (st : St) (Φ : Nat → Prop), RelF w0 st Φ ys zero
theorem frel_nil {w0 : World} {st : St} {Φ : Nat → Prop} (sz : Nat) : FRel w0 st Φ (.lst sz []) (.slice none 0 0) :=
 .lst sz [] none 0 0 [] rfl (by omega) (by simp) (fun _ => Nat.le_refl _) (by simp) (by simp) (by simp) (by simp)
theorem ZRel.nil1 (sz : Nat) : ZRel [.lst sz []] [.slice none 0 0] := fun w0 st Φ => ⟨rfl, fun i x y hx hy => by
 cases i with
 | zero => simp at hx hy; subst hx; subst hy; exact frel_nil sz
 | succ i => simp at hx⟩
theorem relF_rep {w0 : World} {st : St} {Φ : Nat → Prop} {ys : List TV} {zero : List Value} (h : RelF w0 st Φ ys zero) : ∀ (n : Nat), RelF w0 st Φ (List.replicate n ys).flatten (zeros n zero)
 | 0 => ⟨rfl, fun i x y hx => by simp at hx⟩
 | n + 1 => by
  have := flat_app h (relF_rep h n)
  simpa [zeros, List.replicate_succ] using this
theorem tr_makeR {ty : TypeId} {sz bytes : Nat} {zero : List Value} {ys : List TV} {l c : Operand} {n : Int} (hl : tO env l = some (.v (.int .i64 n))) (hc : tO env c = some (.v (.int .i64 n))) (hz : ZRel ys zero) (hsz : Nat.beq ys.length sz = true)
  (hb : 0 ≤ n ∧ n * bytes ≤ 140737488355328 ∧ n < 9223372036854775808)
  (h : TwR C rest K ((d, .s σ.next sz 0 n.toNat true) :: env) (σ.alloc (.rows sz (List.replicate n.toNat ys) ty))) : TwR C (⟨some d, none, .alloc (.make ty sz bytes zero l c), q, ks⟩ :: rest) K env σ := by
 intro venv st Φ ν hr
 obtain ⟨_, h1, h2⟩ := tO_sound hr.env hl
 obtain ⟨_, h3, h4⟩ := tO_sound hr.env hc
 obtain ⟨rfl, _⟩ := h2.v_inv
 obtain ⟨rfl, _⟩ := h4.v_inv
 refine ⟨fun _ => ?_, fun h => by simp at h⟩
 have he : (AOp.make ty sz bytes zero l c).eval venv = some (.cells (zeros n.toNat zero) ty, fun b => .slice (some ⟨b, 0, none⟩) n.toNat sz) := by
  simp only [AOp.eval, h1, h3]
  rw [if_pos ⟨hb.1, trivial, hb.2.1, hb.2.2⟩]
 simp only [COp.step, he]
 have hcr : CRel C.w0 st Φ ν (.rows sz (List.replicate n.toNat ys) ty) (.cells (zeros n.toNat zero) ty) := by
  refine ⟨rfl, ?_, by rw [List.length_replicate]; omega, relF_rep (hz C.w0 st Φ) _⟩
  intro x hx
  rw [(List.mem_replicate.1 hx).2]
  exact Nat.eq_of_beq_eq_true hsz
 refine h _ _ _ _ ((hr.alloc hcr).put ?_ d)
 have := TRel.s (w0 := C.w0) (st := st.alloc (.cells (zeros n.toNat zero) ty)) (Φ := Φ) (ν := upN ν σ.next (some st.next)) σ.next sz 0 n.toNat true st.next (upN_self ..)
 rwa [Nat.zero_mul] at this
end
end Go.Proofs.YtnphhelbianjpaaGreatDoor.V
namespace Go.Proofs.YtnphhelbianjpaaGreatDoor.V
open Go Go.RowKit
def rwU (l : List Int) : List (List TV) := l.map fun a => [.v (.int .u8 a)]
def bsI (l : List Int) : ByteArray := ⟨(l.map fun a => UInt8.ofNat a.toNat).toArray⟩
section
variable {P : Program} {w0 : World} {env : TEnv} {σ : TS}
theorem rwU_flat : ∀ (l : List Int), (rwU l).flatten = l.map fun a => .v (.int .u8 a)
 | [] => rfl
 | x :: l => by
  have ih := rwU_flat l
  unfold rwU at ih ⊢
  simp [ih]
theorem b2s_eval {st : St} {Φ : Nat → Prop} {l : List Int} {v : Value} (hl : l ≠ []) (h : FRel w0 st Φ (.lst 1 (rwU l)) v) : ∃ a n c, v = .slice (some a) n c ∧ cellsAt w0 st a n = some (l.map fun a => .int .u8 a) := by
 cases h with
 | lst _ _ a n c vs e1 e2 e3 e4 e5 e6 e7 e8 =>
  obtain ⟨b, o, rfl, hf, hv⟩ := e7 (by unfold rwU; simpa using hl)
  refine ⟨_, n, c, rfl, ?_⟩
  rw [Nat.mul_one] at hv
  rw [hv]
  congr 1
  have hlen := (cellsAt_info hv).2
  have hfl := rwU_flat l
  rw [hfl] at e8
  have hll : n = l.length := by rw [e1]; unfold rwU; rw [lM]
  refine List.ext_getElem? fun i => ?_
  by_cases hi : i < l.length
  ·have h1 : (l.map fun a => TV.v (.int .u8 a))[i]? = some (.v (.int .u8 l[i])) := by rw [List.getElem?_map, List.getElem?_eq_getElem hi]; rfl
   have h2 : vs[i]? = some vs[i] := List.getElem?_eq_getElem (by omega)
   have h3 := e8 i _ _ h1 h2
   rw [h2, List.getElem?_map, List.getElem?_eq_getElem hi]
   generalize vs[i] = z at h3
   cases h3
   rfl
  ·rw [List.getElem?_eq_none (by omega), List.getElem?_eq_none (by rw [lM]; omega)]
theorem b2s_all (l : List Int) : (l.map fun a => Value.int .u8 a).all (fun c => match c with | .int .u8 _ => true | _ => false) = true := by
 rw [List.all_eq_true]
 intro x hx
 obtain ⟨a, _, rfl⟩ := List.mem_map.1 hx
 rfl
theorem b2s_map (l : List Int) : ((l.map fun a => Value.int .u8 a).map fun c => match c with | .int _ q => UInt8.ofNat q.toNat | _ => 0) = l.map fun a => UInt8.ofNat a.toNat := by
 rw [List.map_map]; rfl
theorem tl_b2s {x : Operand} {k n : Nat} {c : Bool} {xs : List (List TV)} {ty : TypeId} {l : List Int} (hx : tO env x = some (.s k 1 0 n c)) (hk : σ.get k = some (.rows 1 xs ty)) (hn : n = xs.length) (hl : xs = rwU l) (h0 : l ≠ []) :
  TL P w0 env σ (.b2s x) (.v (.string (bsI l))) := by
 subst hl
 intro venv st Φ ν hs he
 obtain ⟨_, h1, h2⟩ := tO_sound he hx
 obtain ⟨a, m, cc, rfl, h3⟩ := b2s_eval h0 (frel_rows hs hk hn h2)
 refine ⟨.string (bsI l), ?_, .f _ _ (.v _ rfl)⟩
 have e1 := b2s_all l
 have e2 := b2s_map l
 simp only [LOp.eval, h1, h3]
 rw [if_pos (by simpa using e1)]
 congr 2
 unfold bsI
 congr 2
end
end Go.Proofs.YtnphhelbianjpaaGreatDoor.V
namespace Go.Proofs.YtnphhelbianjpaaGreatDoor.V
open Go Go.RowKit

inductive Nz : TV → TV → Prop
 | refl (x : TV) : Nz x x
 | nil (sz : Nat) : Nz (.v (.slice none 0 0)) (.lst sz [])
def NzL (cs ds : List TV) : Prop := cs.length = ds.length ∧ ∀ (i : Nat) (x y : TV), cs[i]? = some x → ds[i]? = some y → Nz x y
theorem NzL.nil : NzL [] [] := ⟨rfl, fun i x y h => by simp at h⟩
theorem NzL.cons {x y : TV} {cs ds : List TV} (h : Nz x y) (k : NzL cs ds) : NzL (x :: cs) (y :: ds) := by
 refine ⟨by simp [k.1], fun i a b ha hb => ?_⟩
 cases i with
 | zero => simp at ha hb; subst ha; subst hb; exact h
 | succ i => exact k.2 i a b (by simpa using ha) (by simpa using hb)
theorem NzL.refl (cs : List TV) : NzL cs cs := ⟨rfl, fun i x y hx hy => by rw [hx] at hy; cases hy; exact .refl _⟩
theorem NzL.append {a b c d : List TV} (h : NzL a b) (k : NzL c d) : NzL (a ++ c) (b ++ d) := by
 refine ⟨by simp [h.1, k.1], fun i x y hx hy => ?_⟩
 rw [List.getElem?_append] at hx hy
 split at hx
 ·rename_i hi
  rw [if_pos (by rw [← h.1]; exact hi)] at hy
  exact h.2 i x y hx hy
 ·rename_i hi
  rw [if_neg (by rw [← h.1]; exact hi), ← h.1] at hy
  exact k.2 _ x y hx hy
section
variable {C : Cx} {env : TEnv} {σ : TS} {w0 : World} {st : St} {Φ : Nat → Prop} {ν : Nu}
theorem nz_frel {x y : TV} (h : Nz x y) {v : Value} (hv : FRel w0 st Φ x v) : FRel w0 st Φ y v := by
 cases h with
 | refl => exact hv
 | nil sz => cases hv; exact frel_nil sz
theorem nz_relF {cs ds : List TV} (h : NzL cs ds) {vs : List Value} (hv : RelF w0 st Φ cs vs) : RelF w0 st Φ ds vs := by
 refine ⟨by rw [← h.1]; exact hv.len, fun i y v hy hvv => ?_⟩
 have hi : i < cs.length := by rw [h.1]; exact (List.getElem?_eq_some_iff.1 hy).1
 exact nz_frel (h.2 i cs[i] y (List.getElem?_eq_getElem hi) hy) (hv.rel i cs[i] v (List.getElem?_eq_getElem hi) hvv)
theorem w_obj {k : Nat} {o o' : TObj} (hk : σ.get k = some o) (h : ∀ (st : St) (Φ : Nat → Prop) (ν : Nu) (r : Option (Option Nat)), ObjAt C.w0 st Φ ν o r → ObjAt C.w0 st Φ ν o' r) : Weak C env σ env (σ.set k o') := by
 intro venv st Φ ν hr
 have hs := hr.sim
 refine ⟨Φ, ν, ⟨hs.ok, ?_, hs.own, ?_, hs.fro, hs.dom, ?_⟩, hr.env, hr.next, hr.frame, hr.mine, hr.pin, hr.phi0, hr.phi⟩
 ·intro a b c h1 h2
  rw [TS.get_set] at h1 h2
  refine hs.inj a b c ?_ ?_
  ·split at h1
   ·subst a; rw [hk]; rfl
   ·exact h1
  ·split at h2
   ·subst b; rw [hk]; rfl
   ·exact h2
 ·intro a c h1
  rw [TS.get_set] at h1
  refine hs.npf a c ?_
  split at h1
  ·subst a; rw [hk]; rfl
  ·exact h1
 ·intro a o2 ha
  rw [TS.get_set] at ha
  by_cases e : a = k
  ·subst e
   rw [if_pos rfl, hk] at ha; cases ha
   exact h st Φ ν _ (hs.obj a o hk)
  ·rw [if_neg e] at ha
   exact hs.obj a o2 ha
theorem w_rowsN {k sz : Nat} {xs : List (List TV)} {r r' : List TV} {ty : TypeId} (hk : σ.get k = some (.rows sz (xs ++ [r]) ty)) (h : NzL r r') : Weak C env σ env (σ.set k (.rows sz (xs ++ [r']) ty)) := by
 refine w_obj hk fun st Φ ν q hq => ?_
 cases q with
 | none => exact hq
 | some q =>
  cases q with
  | none =>
   obtain ⟨sz', ty', e⟩ := hq
   simp at e
  | some b =>
   obtain ⟨bk, h1, h2⟩ := hq
   refine ⟨bk, h1, ?_⟩
   cases bk with
   | cells vs ty' =>
    obtain ⟨q1, q2, q3, q4⟩ := h2
    refine ⟨q1, ?_, by simpa using q3, ?_⟩
    ·intro x hx
     rcases List.mem_append.1 hx with hx | hx
     ·exact q2 x (List.mem_append_left _ hx)
     ·rw [List.mem_singleton.1 hx, ← h.1]; exact q2 r (by simp)
    ·refine nz_relF ?_ q4
     rw [List.flatten_append, List.flatten_append]
     refine (NzL.refl _).append ?_
     simpa using h
   | _ => exact h2.elim
theorem w_rowsA {k sz : Nat} {xs ys : List (List TV)} {ty : TypeId} (hk : σ.get k = some (.rows sz xs ty)) (hl : xs.length = ys.length) (h0 : xs ≠ []) (hs : ∀ y ∈ ys, y.length = sz) (h : NzL xs.flatten ys.flatten) : Weak C env σ env (σ.set k (.rows sz ys ty)) := by
 refine w_obj hk fun st Φ ν q hq => ?_
 cases q with
 | none => exact hq
 | some q =>
  cases q with
  | none =>
   obtain ⟨sz', ty', e⟩ := hq
   cases e
   exact absurd rfl h0
  | some b =>
   obtain ⟨bk, h1, h2⟩ := hq
   refine ⟨bk, h1, ?_⟩
   cases bk with
   | cells vs ty' => exact ⟨h2.1, hs, by rw [← hl]; exact h2.2.2.1, nz_relF h h2.2.2.2⟩
   | _ => exact h2.elim
end

def FrzL (k sz : Nat) (xs : List (List TV)) (cs ds : List TV) : Prop := cs.length = ds.length ∧ ∀ (i : Nat) (x y : TV), cs[i]? = some x → ds[i]? = some y → Frz1 k sz xs x y
theorem FrzL.nil {k sz : Nat} {xs : List (List TV)} : FrzL k sz xs [] [] := ⟨rfl, fun i x y h => by simp at h⟩
theorem FrzL.cons {k sz : Nat} {xs : List (List TV)} {x y : TV} {cs ds : List TV} (h : Frz1 k sz xs x y) (q : FrzL k sz xs cs ds) : FrzL k sz xs (x :: cs) (y :: ds) := by
 refine ⟨by simp [q.1], fun i a b ha hb => ?_⟩
 cases i with
 | zero => simp at ha hb; subst ha; subst hb; exact h
 | succ i => exact q.2 i a b (by simpa using ha) (by simpa using hb)
theorem Frz1.aggL {k sz : Nat} {xs : List (List TV)} {cs ds : List TV} (h : FrzL k sz xs cs ds) : Frz1 k sz xs (.agg cs) (.agg ds) := .agg _ _ h.1 h.2
section
variable {C : Cx} {Q : TQ}
theorem goRn (n : Nat) {rs : List ROp} {stk : List Fr} {env : TEnv} {σ : TS} {c' : Cur} {stk' : List Fr} {env' : TEnv} {σ' : TS} (h : mach1 n (.ops rs) stk env σ = .cfg c' stk' env' σ') (k : At C Q c' stk' env' σ') : TwR C rs (post C stk Q .normal) env σ := by
 unfold mach1 at h
 split at h
 ·rename_i h1
  refine stepC_sound (c := .ops rs) h1 (mach_sound n ?_)
  rw [h]
  exact k
 ·cases h
end
end Go.Proofs.YtnphhelbianjpaaGreatDoor.V
namespace Go.Proofs.YtnphhelbianjpaaGreatDoor.V
open Go Go.RowKit
def ibs : Value → Bool
 | .int _ _ | .bool _ | .string _ => true
 | _ => false
theorem beqL_self : ∀ (l : List Value), l.all ibs = true → beqL l l = true
 | [], _ => rfl
 | v :: l, h => by
  simp only [List.all_cons, Bool.and_eq_true] at h
  have h2 := beqL_self l h.2
  cases v <;> simp_all [beqL, beqA, ibs]
theorem fits_ibs : ∀ {sh : List Sh} {l : List Value}, fitsL sh l = true → l.all ibs = true
 | [], [], _ => rfl
 | s :: sh, v :: l, h => by
  simp only [fitsL, Bool.and_eq_true] at h
  have h2 := fits_ibs h.2
  rw [List.all_cons, h2, Bool.and_true]
  have h1 := h.1
  cases s <;> cases v <;> first | rfl | simp [Sh.fits] at h1
 | [], _ :: _, h => by simp [fitsL] at h
 | _ :: _, [], h => by simp [fitsL] at h
section
variable {P : Program} {w0 : World} {env : TEnv} {σ : TS}
theorem tl_neT {t : TypeId} {x y : Operand} {cs ds : List TV} {xs : List Value} {sh : List Sh} (hsh : shapeOf P 10000 t = some sh) (hagg : (P.underlying t).map aggD = some true) (hm : P.eqGuardType P.depth t = false)
  (hx : tO env x = some (.agg cs)) (hy : tO env y = some (.agg ds)) (h1 : vsOf cs = some xs) (h2 : vsOf ds = some xs) (f1 : fitsL sh xs = true) :
  TL P w0 env σ (.bin .neq t x y) (.v (.bool false)) := by
 have := tl_nes (P := P) (w0 := w0) (σ := σ) hsh hagg hm hx hy h1 h2 f1 f1
 rwa [beqL_self xs (fits_ibs f1)] at this
end
end Go.Proofs.YtnphhelbianjpaaGreatDoor.V
namespace Go.Proofs.YtnphhelbianjpaaGreatDoor.V
open Go Go.RowKit
def stTys : TypeDesc → Option (List TypeId)
 | .struct fs => some (fs.toList.map fun f => f.type)
 | _ => none
section
variable {P : Program} {d : Nat} {t : TypeId}
theorem all2_map {α β γ : Type} {R : α → γ → Prop} {g : β → γ} : ∀ {xs : List α} {ys : List β}, All2 (fun x y => R x (g y)) xs ys → All2 R xs (ys.map g)
 | _, _, .nil => .nil
 | _, _, .cons h t => .cons h (all2_map t)
theorem tl_st {ts : List TypeId} {cs : List TV} (ht : (P.underlying t).bind stTys = some ts) (h : TyL P (d + 1) t cs) : ∃ xs : List (List TV), cs = xs.flatten ∧ All2 (fun x t => TyL P d t x) xs ts := by
 cases hu : P.underlying t with
 | none => rw [hu] at ht; cases ht
 | some u =>
  rw [hu] at ht
  cases u with
  | struct fs =>
   simp only [TyL, hu] at h
   obtain ⟨xs, e, h⟩ := h
   cases ht
   exact ⟨xs, e, all2_map h⟩
  | _ => cases ht
theorem tl_int {k : IntKind} {cs : List TV} (ht : P.underlying t = some (.int k)) (h : TyL P (d + 1) t cs) : ∃ n, cs = [.v (.int k n)] ∧ k.min ≤ n ∧ n ≤ k.max := by simpa only [TyL, ht] using h
theorem tl_sli {e : TypeId} {sz : Nat} {cs : List TV} (ht : P.underlying t = some (.slice e)) (hz : P.cellsOf e = sz) (h : TyL P (d + 1) t cs) : ∃ xs, cs = [.lst sz xs] ∧ ∀ x ∈ xs, TyL P d e x := by
 simp only [TyL, ht, hz] at h
 obtain ⟨xs, e, _, h⟩ := h
 exact ⟨xs, e, h⟩
theorem map_of {α β : Type} {c : α → β} {Q : α → Prop} : ∀ {xs : List β}, (∀ x ∈ xs, ∃ a, x = c a ∧ Q a) → ∃ l : List α, xs = l.map c ∧ ∀ a ∈ l, Q a
 | [], _ => ⟨[], rfl, fun _ h => by cases h⟩
 | x :: xs, h => by
  obtain ⟨a, e, ha⟩ := h x (List.mem_cons_self ..)
  obtain ⟨l, e2, hl⟩ := map_of fun y hy => h y (List.mem_cons_of_mem _ hy)
  exact ⟨a :: l, by rw [e, e2]; rfl, fun b hb => by
   rcases List.mem_cons.1 hb with rfl | hb
   ·exact ha
   ·exact hl b hb⟩
theorem map_of' {α β : Type} {c : α → β} {xs : List β} (h : ∀ x ∈ xs, ∃ a, x = c a) : ∃ l : List α, xs = l.map c := by
 obtain ⟨l, e, _⟩ := map_of (Q := fun _ => True) fun x hx => let ⟨a, e⟩ := h x hx; ⟨a, e, trivial⟩
 exact ⟨l, e⟩
theorem tv_sli {x : TV} {e : TypeId} (ht : P.underlying t = some (.slice e)) (h : TyV P d x t) : TyL P d t [x] := by
 unfold TyV at h
 rwa [ht] at h
end
end Go.Proofs.YtnphhelbianjpaaGreatDoor.V
namespace Go.Proofs.YtnphhelbianjpaaGreatDoor.V
open Go Go.RowKit

section
variable {C : Cx} {env : TEnv} {σ : TS}
theorem twret {rs : List (Nat × Option (Nat × Bool))} {R : TV → TS → Prop} {vs : List TV} {r : TV} {σ' : TS} (hl : tresAll env σ rs = some vs) (hw : Weak C [(0, tresV vs)] σ [(0, r)] σ') (h : R r σ') : At C (retW C rs R) (.out .ret) [] env σ := ⟨_, hl, r, σ', hw, h⟩
end

def self1 : TV → Bool
 | .p _ _ | .e _ _ _ _ | .s _ _ _ _ _ | .m _ => true
 | x => flatB x
def selfA : TV → Bool
 | .agg cs => cs.all self1
 | x => self1 x
def selfT : TV → Bool
 | .tup cs => cs.all selfA
 | x => selfA x
def selfO : TObj → Bool
 | .cells cs _ => cs.all selfA
 | .rows _ xs _ => xs.all fun x => x.all flatB
 | .ptrs _ _ => true
 | _ => false

section
variable {w0 : World} {st : St} {Φ Ψ : Nat → Prop} {ν : Nu}
theorem self1_rel {x : TV} (h : self1 x = true) {v : Value} (hv : TRel w0 st Φ ν x v) : TRel w0 st Ψ ν x v := by
 cases hv with
 | f x v hf =>
  cases x with
  | p | e | s | m => cases hf
  | _ => exact .f _ _ (flatB_rel (by simpa only [self1] using h) hf)
 | agg cs vs => exact absurd h (by simp [self1, flatB])
 | tup cs vs => exact absurd h (by simp [self1, flatB])
 | p k off b hb => exact .p _ _ _ hb
 | e k sz i off b hb => exact .e _ _ _ _ _ hb
 | s k sz o n c b hb => exact .s _ _ _ _ _ _ hb
 | sn k sz c hb => exact .sn _ _ _ hb
 | m k b hb => exact .m _ _ hb
theorem selfA_rel {x : TV} (h : selfA x = true) {v : Value} (hv : TRel w0 st Φ ν x v) : TRel w0 st Ψ ν x v := by
 cases x with
 | agg cs =>
  obtain ⟨vs, rfl, h2⟩ := hv.agg_inv
  refine .agg _ _ (by have := h2.len; simpa using this) fun i x y hx hy => ?_
  exact self1_rel (List.all_eq_true.1 h x (List.mem_of_getElem? hx)) (h2.rel i x y hx (by simpa using hy))
 | _ => exact self1_rel (by simpa only [selfA] using h) hv
theorem selfT_rel {x : TV} (h : selfT x = true) {v : Value} (hv : TRel w0 st Φ ν x v) : TRel w0 st Ψ ν x v := by
 cases x with
 | tup cs =>
  obtain ⟨vs, rfl, h2⟩ := hv.tup_inv
  refine .tup _ _ (by have := h2.len; simpa using this) fun i x y hx hy => ?_
  exact selfA_rel (List.all_eq_true.1 h x (List.mem_of_getElem? hx)) (h2.rel i x y hx (by simpa using hy))
 | _ => exact selfA_rel (by simpa only [selfT] using h) hv
theorem selfO_rel {o : TObj} (h : selfO o = true) {b : Blk} (hc : CRel w0 st Φ ν o b) : CRel w0 st Ψ ν o b := by
 cases o with
 | cells cs ty =>
  cases b with
  | cells vs ty' => exact ⟨hc.1, hc.2.len, fun i x y hx hy => selfA_rel (List.all_eq_true.1 h x (List.mem_of_getElem? hx)) (hc.2.rel i x y hx hy)⟩
  | _ => exact hc.elim
 | rows sz xs ty =>
  cases b with
  | cells vs ty' =>
   obtain ⟨h1, h2, h3, h4⟩ := hc
   refine ⟨h1, h2, h3, h4.len, fun i x y hx hy => flatB_rel ?_ (h4.rel i x y hx hy)⟩
   obtain ⟨l, hl, hx⟩ := List.mem_flatten.1 (List.mem_of_getElem? hx)
   exact List.all_eq_true.1 (List.all_eq_true.1 h l hl) x hx
  | _ => exact hc.elim
 | ptrs ks ty =>
  cases b with
  | cells vs ty' =>
   refine ⟨hc.1, hc.2.len, fun i x y hx hy => ?_⟩
   have hxk := hx
   rw [List.getElem?_map] at hxk
   cases hk : ks[i]? with
   | none => rw [hk] at hxk; cases hxk
   | some k =>
    rw [hk] at hxk; cases hxk
    exact self1_rel rfl (hc.2.rel i _ y hx hy)
  | _ => exact hc.elim
 | _ => cases h
end

section
variable {C : Cx} {K : TK} {env : TEnv} {σ : TS} {rest : List ROp} {d : Option Nat} {ks : List LOp} {q : Bool}
theorem tr_mcallL {f : FuncId} {args : List Operand} {l l' : List TV} {n0 : Nat} {Q : TV → TS → Prop} (ha : targs env args = some l) (hz : FzL σ l l') (hT : TC C.P C.G f l' ⟨[], n0⟩ [] Q)
  (h : ∀ r σ', Q r σ' → ∃ bk2 r' objs, (∀ i j, look i bk2 = some j → i = σ.next + j) ∧ injB bk2 = true ∧ RenV bk2 r r' ∧ RenS bk2 σ' objs ∧ selfT r' = true ∧ (∀ k o, look k objs = some o → selfO o = true) ∧ TwR C rest K (putT d r' env) ⟨objs ++ σ.objs, σ.next + σ'.next⟩) :
  TwR C (⟨d, none, .call (.fn f) args, q, ks⟩ :: rest) K env σ := by
 intro venv st Φ ν hr
 refine ⟨fun _ => ?_, fun h => by simp at h⟩
 obtain ⟨vs, h1, h2⟩ := targs_sound hr.env ha
 have h3 := h2.fz hr.sim hz
 simp only [COp.step, evalC, h1, Option.map_some]
 have hs := hr.sim
 have hown : ∀ b, (Φ b ∨ Own σ ν b) → b < st.next := by
  rintro b (h | ⟨k, _, h⟩)
  ·exact hs.fro b h
  ·exact (hs.lt h).2
 have hsc : TSim C.w0 st (fun b => Φ b ∨ Own σ ν b) (fun _ => none) ⟨[], n0⟩ :=
  ⟨hs.ok, fun i j c h => (by cases h), fun i c h => (by cases h), fun i c h => (by cases h), hown, fun k _ => rfl, fun k o h => (by cases h)⟩
 have hval : ∀ {k o}, σ.get k = some o → ν k ≠ none := by
  intro k o hk e
  have := hs.obj k o hk
  rw [e] at this
  exact this
 have hlt : ∀ {k r}, ν k = some r → k < σ.next := by
  intro k r hk
  rcases Nat.lt_or_ge k σ.next with h | h
  ·exact h
  ·rw [hs.dom k h] at hk; cases hk
 refine (hT C.w0 st _ _ vs C.hG hsc ⟨h3.len, fun i x y hx hy => .f _ _ (h3.rel i x y hx hy)⟩ (by intro j hj; cases hj)).mono' ?_
 rintro v st' ⟨Φ', νc, r, σ', hs', hrv, hq, q1, q2, q3, q4, _, q6⟩ ho' _
 refine ⟨fun _ => .inl ⟨q6, fun b hb => q4 b hb (fun ⟨j, hj⟩ => by cases hj)⟩, ?_⟩
 obtain ⟨bk2, r', objs, b1, b2, b4, b5, b6, b7, hk⟩ := h r σ' hq
 have hnl : ∀ {b}, ¬ Lent (fun _ => none) b := fun ⟨j, hj⟩ => by cases hj
 have hsame : ∀ b, b < st.next → st'.blk b = st.blk b := fun b hb => q4 b hb hnl
 have hΦs : ∀ b, Φ b → st'.blk b = st.blk b := fun b hb => hsame b (hs.fro b hb)
 have hnew : ∀ {k b}, νc k = some (some b) → st.next ≤ b := fun hv => (q3 _ _ hv).resolve_left hnl
 let νn : Nu := fun i => if i < σ.next then ν i else νc (i - σ.next)
 have hνe : ∀ k r, ν k = some r → νn k = some r := fun k r hk => by
  show (if k < σ.next then ν k else _) = _
  rw [if_pos (hlt hk)]; exact hk
 have hback : ∀ {i j}, look i bk2 = some j → νn i = νc j := by
  intro i j hi
  have := b1 i j hi
  subst this
  show (if σ.next + j < σ.next then _ else νc (σ.next + j - σ.next)) = _
  rw [if_neg (by omega), show σ.next + j - σ.next = j by omega]
 have hνb : ∀ k r, (look k bk2).bind νc = some r → νn k = some r := by
  intro k r hk
  cases hl : look k bk2 with
  | none => simp [hl] at hk
  | some j => simp only [hl, Option.bind_some] at hk; rw [hback hl]; exact hk
 have hget : ∀ {i o}, look i (objs ++ σ.objs) = some o → (∃ j oc, look i bk2 = some j ∧ σ'.get j = some oc ∧ RenO bk2 oc o ∧ selfO o = true) ∨ σ.get i = some o := by
  intro i o hi
  rw [look_app] at hi
  cases ho : look i objs with
  | none => rw [ho] at hi; exact .inr hi
  | some o' =>
   rw [ho] at hi; cases hi
   obtain ⟨j, oc, c1, c2, c3⟩ := renS_get b5 ho
   exact .inl ⟨j, oc, c1, c2, c3, b7 _ _ ho⟩
 have hνn : ∀ {i o b}, σ.get i = some o → νn i = some (some b) → ν i = some (some b) := by
  intro i o b hi hv
  cases hq : ν i with
  | none => exact absurd hq (hval hi)
  | some q => rw [hνe i q hq] at hv; exact hv
 have hsim : TSim C.w0 st' Φ νn ⟨objs ++ σ.objs, σ.next + σ'.next⟩ := by
  refine ⟨ho', ?_, ?_, ?_, fun b hb => Nat.lt_of_lt_of_le (hs.fro b hb) q6, ?_, ?_⟩
  ·intro i j b hi hj hvi hvj
   obtain ⟨oi, hi⟩ := Option.isSome_iff_exists.1 hi
   obtain ⟨oj, hj⟩ := Option.isSome_iff_exists.1 hj
   rcases hget hi with ⟨ji, ci, c1, c2, _⟩ | c1 <;> rcases hget hj with ⟨jj, cj, d1, d2, _⟩ | d1
   ·rw [hback c1] at hvi
    rw [hback d1] at hvj
    have := hs'.inj ji jj b (by rw [c2]; rfl) (by rw [d2]; rfl) hvi hvj
    subst this
    exact injB_inj b2 c1 d1
   ·rw [hback c1] at hvi
    have e := hνn d1 hvj
    have := hnew hvi
    have := (hs.lt e).2
    omega
   ·rw [hback d1] at hvj
    have e := hνn c1 hvi
    have := hnew hvj
    have := (hs.lt e).2
    omega
   ·exact hs.inj i j b (by rw [c1]; rfl) (by rw [d1]; rfl) (hνn c1 hvi) (hνn d1 hvj)
  ·intro i b hv
   by_cases hi : i < σ.next
   ·have hv' : ν i = some (some b) := by
     have : (if i < σ.next then ν i else νc (i - σ.next)) = some (some b) := hv
     rwa [if_pos hi] at this
    exact ⟨(hs.lt hv').1, Nat.lt_of_lt_of_le (hs.lt hv').2 q6⟩
   ·have hv' : νc (i - σ.next) = some (some b) := by
     have : (if i < σ.next then ν i else νc (i - σ.next)) = some (some b) := hv
     rwa [if_neg hi] at this
    exact hs'.own _ b hv'
  ·intro i b hi hv
   obtain ⟨oi, hi⟩ := Option.isSome_iff_exists.1 hi
   rcases hget hi with ⟨ji, ci, c1, c2, _⟩ | c1
   ·rw [hback c1] at hv
    intro hΦ
    have := hnew hv
    have := hs.fro b hΦ
    omega
   ·exact hs.npf i b (by rw [c1]; rfl) (hνn c1 hv)
  ·intro k hk
   have hk' : σ.next + σ'.next ≤ k := hk
   show (if k < σ.next then ν k else νc (k - σ.next)) = none
   rw [if_neg (by omega)]
   exact hs'.dom _ (by omega)
  ·intro i o hi
   rcases hget hi with ⟨ji, ci, c1, c2, c3, c4⟩ | c1
   ·show ObjAt C.w0 st' Φ νn o (νn i)
    rw [hback c1]
    rcases hs'.has c2 with ⟨e1, sz, ty, rfl⟩ | ⟨b, bk', e1, e2, e3⟩
    ·rw [e1]
     cases c3
     exact ⟨sz, ty, rfl⟩
    ·rw [e1]
     exact ⟨bk', e2, (selfO_rel (Ψ := Φ) c4 (renO_sound c3 e3)).stable (fun _ h => h) (fun _ _ => rfl) hνb⟩
   ·show ObjAt C.w0 st' Φ νn o (νn i)
    rcases hs.has c1 with ⟨e1, sz, ty, rfl⟩ | ⟨b, bk', e1, e2, e3⟩
    ·rw [hνe _ _ e1]
     exact ⟨sz, ty, rfl⟩
    ·rw [hνe _ _ e1]
     exact ⟨bk', by rw [hsame b (hs.lt e1).2]; exact e2, e3.stable (fun _ h => h) hΦs hνe⟩
 have hrel : RelT C env ⟨objs ++ σ.objs, σ.next + σ'.next⟩ venv st' Φ νn := by
  refine ⟨hsim, hr.env.stable (fun _ h => h) hΦs hνe, Nat.le_trans hr.next q6, ?_, ?_, ?_, hr.phi0, hr.phi⟩
  ·intro b hb hL'
   rw [hsame b (Nat.lt_of_lt_of_le hb hr.next)]
   exact hr.frame b hb hL'
  ·intro i b hv
   have hv : (if i < σ.next then ν i else νc (i - σ.next)) = some (some b) := hv
   split at hv
   ·exact hr.mine i b hv
   ·exact .inr (Nat.le_trans hr.next (hnew hv))
  ·intro j hj
   obtain ⟨p1, p2⟩ := hr.pin j hj
   refine ⟨?_, p2⟩
   cases hv : ν j with
   | none => exact absurd (by rw [← p1]; exact hv) p2
   | some q => rw [hνe j q hv, ← p1, hv]
 exact hk _ _ _ _ (hrel.putO (selfT_rel b6 ((renV_sound b4 hrv).stable (fun _ h => h) (fun _ _ => rfl) hνb)) d)
end
end Go.Proofs.YtnphhelbianjpaaGreatDoor.V
namespace Go.Proofs.YtnphhelbianjpaaGreatDoor.V
open Go Go.RowKit

def rnk0 : List (Nat × Nat) → Nat → Option Nat
 | [], _ => none
 | (i, j) :: r, k => bif Nat.beq j k then some i else rnk0 r k
def rnk (bk : List (Nat × Nat)) (k : Nat) : Option Nat := match rnk0 bk k with
 | some i => match look i bk with
  | some k' => bif Nat.beq k' k then some i else none
  | none => none
 | none => none
def rnAll (f : TV → Option TV) : List TV → Option (List TV)
 | [] => some []
 | x :: r => match f x with
  | some y => match rnAll f r with
   | some l => some (y :: l)
   | none => none
  | none => none
def rn1 (bk : List (Nat × Nat)) : TV → Option TV
 | .p k o => match rnk bk k with
  | some i => some (.p i o)
  | none => none
 | .e k sz i o => match rnk bk k with
  | some k' => some (.e k' sz i o)
  | none => none
 | .s k sz o n c => match rnk bk k with
  | some i => some (.s i sz o n c)
  | none => none
 | .m k => match rnk bk k with
  | some i => some (.m i)
  | none => none
 | x => bif frozV x then some x else none
def rnA (bk : List (Nat × Nat)) : TV → Option TV
 | .agg cs => match rnAll (rn1 bk) cs with
  | some l => some (.agg l)
  | none => none
 | x => rn1 bk x
def rnT (bk : List (Nat × Nat)) : TV → Option TV
 | .tup cs => match rnAll (rnA bk) cs with
  | some l => some (.tup l)
  | none => none
 | x => rnA bk x
def rnNs (bk : List (Nat × Nat)) : List Nat → Option (List Nat)
 | [] => some []
 | k :: r => match rnk bk k with
  | some i => match rnNs bk r with
   | some l => some (i :: l)
   | none => none
  | none => none
def rnO (bk : List (Nat × Nat)) : TObj → Option TObj
 | .cells cs ty => match rnAll (rnA bk) cs with
  | some l => some (.cells l ty)
  | none => none
 | .rows sz xs ty => some (.rows sz xs ty)
 | .ptrs ks ty => match rnNs bk ks with
  | some l => some (.ptrs l ty)
  | none => none
 | _ => none
def rnS (bk : List (Nat × Nat)) (σ : TS) : List (Nat × Nat) → Option (List (Nat × TObj))
 | [] => some []
 | (i, k) :: r => match look i bk with
  | some k' => bif Nat.beq k' k then (match σ.get k with
   | some o => match rnO bk o with
    | some o' => match rnS bk σ r with
     | some l => some ((i, o') :: l)
     | none => none
    | none => none
   | none => none) else none
  | none => none

theorem rnk_ok {bk : List (Nat × Nat)} {k i : Nat} (h : rnk bk k = some i) : look i bk = some k := by
 unfold rnk at h
 split at h
 ·split at h
  ·rename_i hk
   cases hb : Nat.beq _ k with
   | true => rw [hb, cond_true] at h; cases h; rw [hk, Nat.eq_of_beq_eq_true hb]
   | false => rw [hb, cond_false] at h; cases h
  ·cases h
 ·cases h
theorem rnAll_ok {bk : List (Nat × Nat)} {f : TV → Option TV} (hf : ∀ {x y}, f x = some y → RenV bk x y) : ∀ {l l' : List TV}, rnAll f l = some l' → RenL bk l l'
 | [], l', h => by cases h; exact RenL.nil bk
 | x :: r, l', h => by
  unfold rnAll at h
  cases h1 : f x with
  | none => rw [h1] at h; cases h
  | some y =>
   rw [h1] at h
   simp only at h
   cases h2 : rnAll f r with
   | none => rw [h2] at h; cases h
   | some l => rw [h2] at h; cases h; exact RenL.cons (hf h1) (rnAll_ok hf h2)
theorem rn1_ok {bk : List (Nat × Nat)} {x y : TV} (h : rn1 bk x = some y) : RenV bk x y := by
 have froz : ∀ {x y : TV}, (bif frozV x then some x else none) = some y → RenV bk x y := fun {x y} h => by
  cases hf : frozV x with
  | true => rw [hf, cond_true] at h; cases h; exact .f _ hf
  | false => rw [hf, cond_false] at h; cases h
 unfold rn1 at h
 split at h
 ·split at h
  ·cases h; exact .p _ _ _ (rnk_ok ‹_›)
  ·cases h
 ·split at h
  ·cases h; exact .e _ _ _ _ _ (rnk_ok ‹_›)
  ·cases h
 ·split at h
  ·cases h; exact .s _ _ _ _ _ _ (rnk_ok ‹_›)
  ·cases h
 ·split at h
  ·cases h; exact .m _ _ (rnk_ok ‹_›)
  ·cases h
 ·exact froz h
theorem rnA_ok {bk : List (Nat × Nat)} {x y : TV} (h : rnA bk x = some y) : RenV bk x y := by
 unfold rnA at h
 split at h
 ·split at h
  ·cases h
   have := rnAll_ok rn1_ok ‹_›
   exact .agg _ _ this.1 this.2
  ·cases h
 ·exact rn1_ok h
theorem rnT_ok {bk : List (Nat × Nat)} {x y : TV} (h : rnT bk x = some y) : RenV bk x y := by
 unfold rnT at h
 split at h
 ·split at h
  ·cases h
   have := rnAll_ok rnA_ok ‹_›
   exact .tup _ _ this.1 this.2
  ·cases h
 ·exact rnA_ok h
theorem rnNs_ok {bk : List (Nat × Nat)} : ∀ {ks l : List Nat}, rnNs bk ks = some l → ks.length = l.length ∧ ∀ (i k k' : Nat), ks[i]? = some k → l[i]? = some k' → look k' bk = some k
 | [], l, h => by cases h; exact ⟨rfl, fun i k k' h => by simp at h⟩
 | k :: r, l, h => by
  unfold rnNs at h
  cases h1 : rnk bk k with
  | none => rw [h1] at h; cases h
  | some i =>
   rw [h1] at h
   simp only at h
   cases h2 : rnNs bk r with
   | none => rw [h2] at h; cases h
   | some l =>
    rw [h2] at h
    cases h
    obtain ⟨e1, e2⟩ := rnNs_ok h2
    refine ⟨by simp [e1], fun i a b ha hb => ?_⟩
    cases i with
    | zero => simp at ha hb; subst ha; subst hb; exact rnk_ok h1
    | succ i => exact e2 i a b (by simpa using ha) (by simpa using hb)
theorem rnO_ok {bk : List (Nat × Nat)} {o o' : TObj} (h : rnO bk o = some o') : RenO bk o o' := by
 unfold rnO at h
 split at h
 ·split at h
  ·cases h; exact .cells _ _ _ (rnAll_ok rnA_ok ‹_›)
  ·cases h
 ·cases h; exact .rows _ _ _
 ·split at h
  ·cases h
   obtain ⟨e1, e2⟩ := rnNs_ok ‹_›
   exact .ptrs _ _ _ e1 e2
  ·cases h
 ·cases h
theorem rnS_ok {bk : List (Nat × Nat)} {σ : TS} : ∀ {l : List (Nat × Nat)} {objs : List (Nat × TObj)}, rnS bk σ l = some objs → RenS bk σ objs
 | [], objs, h => by cases h; exact .nil
 | (i, k) :: r, objs, h => by
  unfold rnS at h
  cases hk : look i bk with
  | none => rw [hk] at h; cases h
  | some k' =>
   rw [hk] at h
   simp only at h
   cases hb : Nat.beq k' k with
   | false => rw [hb, cond_false] at h; cases h
   | true =>
    rw [hb, cond_true] at h
    cases h1 : σ.get k with
    | none => rw [h1] at h; cases h
    | some o =>
     rw [h1] at h
     simp only at h
     cases h2 : rnO bk o with
     | none => rw [h2] at h; cases h
     | some o' =>
      rw [h2] at h
      simp only at h
      cases h3 : rnS bk σ r with
      | none => rw [h3] at h; cases h
      | some l =>
       rw [h3] at h
       cases h
       refine .cons k i _ _ _ ?_ h1 (rnO_ok h2) (rnS_ok h3)
       rw [hk, Nat.eq_of_beq_eq_true hb]

def bkOf (next : Nat) (bk : List (Nat × Nat)) (pins : List Nat) : List (Nat × TObj) → List (Nat × Nat)
 | [] => []
 | (j, _) :: r => (bif pins.any (fun p => Nat.beq p j) then (match look j bk with
  | some k => k
  | none => next + j) else next + j, j) :: bkOf next bk pins r
theorem bkOf_ok {σ : TS} {bk : List (Nat × Nat)} {pins : List Nat} : ∀ {objs : List (Nat × TObj)}, BackOk σ bk pins (bkOf σ.next bk pins objs)
 | [], i, j, h => by cases h
 | (j0, o) :: r, i, j, h => by
  unfold bkOf at h
  obtain ⟨m, hm⟩ : ∃ m, m = (bif pins.any (fun p => Nat.beq p j0) then (match look j0 bk with
   | some k => k
   | none => σ.next + j0) else σ.next + j0) := ⟨_, rfl⟩
  rw [← hm, look_cons] at h
  by_cases e : i = m
  ·rw [if_pos e] at h
   cases h
   subst e
   cases hp : pins.any (fun p => Nat.beq p j0) with
   | false => rw [hp, cond_false] at hm; exact .inl hm
   | true =>
    rw [hp, cond_true] at hm
    obtain ⟨p, hp1, hp2⟩ := List.any_eq_true.1 hp
    have := Nat.eq_of_beq_eq_true hp2
    subst this
    cases hl : look p bk with
    | none => rw [hl] at hm; exact .inl hm
    | some k => rw [hl] at hm; simp only at hm; exact .inr ⟨hp1, by rw [hm]⟩
  ·rw [if_neg e] at h
   exact bkOf_ok i j h

section
variable {C : Cx} {K : TK} {env : TEnv} {σ : TS} {rest : List ROp} {d : Option Nat} {ks : List LOp} {q : Bool}
theorem tr_mcallB {P : Program} {G : World → Prop} {f : FuncId} {args : List Operand} {l lc : List TV} {σc : TS} {pins : List Nat} {R r' : TV} {S : TS} {objs : List (Nat × TObj)} (hP : C.P = P) (hG : C.G = G) (hT : TC P G f lc σc pins (fun r σ' => r = R ∧ σ' = S)) (ha : targs env args = some l) (bk : List (Nat × Nat))
  (hL : rnAll (rnT bk) l = some lc) (hS : rnS bk σ bk = some σc.objs)
  (hb : (injB bk && bk.all (fun p => Nat.blt p.1 σc.next) && bk.all (fun p => (σ.get p.2).isSome) && pins.all (fun j => (look j bk).isSome) && injB (bkOf σ.next bk pins S.objs)) = true) (hks : (!q || ks.all (farT env σ bk)) = true)
  (hR : rnT (bkOf σ.next bk pins S.objs) R = some r') (hO : rnS (bkOf σ.next bk pins S.objs) S (bkOf σ.next bk pins S.objs) = some objs)
  (h : TwR C rest K (putT d r' env) ⟨objs ++ restL bk σ.objs, σ.next + S.next⟩) : TwR C (⟨d, none, .call (.fn f) args, q, ks⟩ :: rest) K env σ := by
 simp only [Bool.and_eq_true] at hb
 obtain ⟨⟨⟨⟨h1, h2⟩, h3⟩, h4⟩, h5⟩ := hb
 subst hP hG
 refine tr_mcall ha bk h1 h2 (rnAll_ok rnT_ok hL) (rnS_ok hS) hT (fun p hp => List.all_eq_true.1 h3 p hp) (fun j hj => List.all_eq_true.1 h4 j hj) (restL bk σ.objs) (restOk bk) (fun hq => by rw [hq] at hks; exact hks) ?_
 rintro r σ' ⟨rfl, rfl⟩
 exact ⟨_, r', objs, bkOf_ok, h5, rnT_ok hR, rnS_ok hO, h⟩
theorem tr_mcallF {P : Program} {G : World → Prop} {f : FuncId} {args : List Operand} {l l' : List TV} {n0 : Nat} {R r' : TV} {S : TS} {objs : List (Nat × TObj)} (hP : C.P = P) (hG : C.G = G) (hT : TC P G f l' ⟨[], n0⟩ [] (fun r σ' => r = R ∧ σ' = S)) (ha : targs env args = some l) (hz : FzL σ l l')
  (hb : injB (bkOf σ.next [] [] S.objs) = true) (hR : rnT (bkOf σ.next [] [] S.objs) R = some r') (hO : rnS (bkOf σ.next [] [] S.objs) S (bkOf σ.next [] [] S.objs) = some objs) (hs : selfT r' = true) (hso : ∀ k o, look k objs = some o → selfO o = true)
  (h : TwR C rest K (putT d r' env) ⟨objs ++ σ.objs, σ.next + S.next⟩) : TwR C (⟨d, none, .call (.fn f) args, q, ks⟩ :: rest) K env σ := by
 subst hP hG
 refine tr_mcallL ha hz hT ?_
 rintro r σ' ⟨rfl, rfl⟩
 refine ⟨_, r', objs, fun i j hij => ?_, hb, rnT_ok hR, rnS_ok hO, hs, hso, h⟩
 rcases (bkOf_ok (σ := σ) (bk := []) (pins := [])) i j hij with h | ⟨h, _⟩
 ·exact h
 ·cases h
def spine {α : Type} : List α → Option (List α)
 | [] => some []
 | x :: r => match spine r with
  | some l => some (x :: l)
  | none => none
theorem spine_eq {α : Type} : ∀ {l r : List α}, spine l = some r → l = r
 | [], r, h => by cases h; rfl
 | x :: l, r, h => by
  unfold spine at h
  cases h1 : spine l with
  | none => rw [h1] at h; cases h
  | some l' => rw [h1] at h; cases h; rw [spine_eq h1]
end
theorem selfS_nil : ∀ k o, look k ([] : List (Nat × TObj)) = some o → selfO o = true := fun k o h => by cases h
theorem selfS_cons {i : Nat} {a : TObj} {r : List (Nat × TObj)} (ha : selfO a = true) (hr : ∀ k o, look k r = some o → selfO o = true) : ∀ k o, look k ((i, a) :: r) = some o → selfO o = true := fun k o h => by
 rw [look_cons] at h
 split at h
 ·cases h; exact ha
 ·exact hr k o h
theorem self_rows {α : Type} {f : α → List TV} (h : ∀ a, (f a).all flatB = true) (sz : Nat) (l : List α) (ty : TypeId) : selfO (.rows sz (l.map f) ty) = true := by
 simp only [selfO, List.all_eq_true]
 intro x hx
 obtain ⟨a, _, rfl⟩ := List.mem_map.1 hx
 exact List.all_eq_true.1 (h a)
end Go.Proofs.YtnphhelbianjpaaGreatDoor.V
