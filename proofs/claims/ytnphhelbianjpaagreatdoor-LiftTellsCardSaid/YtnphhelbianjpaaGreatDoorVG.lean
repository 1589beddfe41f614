/-
  The semantics of trees T: walks, and laws.
-/
import Derived.Test.YtnphhelbianjpaaGreatDoorVF
import Derived.ProofKit
import Derived.Carry
set_option linter.all false
set_option linter.unusedSimpArgs false
set_option linter.unusedVariables false
set_option linter.unnecessarySimpa false
namespace Go.Proofs.YtnphhelbianjpaaGreatDoor.V
open Go Go.RowKit

abbrev t (n : Nat) : Operand := .tmp n
abbrev L (d : Nat) (l : LOp) : ROp := ⟨some d, none, .light l, false, []⟩
abbrev A (d : Nat) (a : AOp) : ROp := ⟨some d, none, .alloc a, false, []⟩
abbrev H (d : Nat) (h : HOp) : ROp := ⟨some d, none, .heavy h, false, []⟩
section
variable {C : Cx} {K : TK} {env : TEnv} {σ : TS} {rest : List ROp} {d : Option Nat} {q : Bool} {ks : List LOp}

theorem tr_next {x : Operand} {k pos : Nat} {s : ByteArray} (hx : tO env x = some (.p k 0)) (hk : σ.get k = some (.iter s pos)) (hks : keepAllT env σ k 0 0 ks = true) (hp : pos < s.size)
  (h : TwR C rest K (putT d (.tup [.v (.bool true), .v (.int .i64 (pos : Int)), .v (.int .i32 ((Utf8.decode s pos).1 : Int))]) env) (σ.set k (.iter s (pos + (Utf8.decode s pos).2)))) : TwR C (⟨d, none, .heavy (.next x), q, ks⟩ :: rest) K env σ := by
 intro venv st Φ ν hr
 refine ⟨fun _ => ?_, fun h => by simp at h⟩
 obtain ⟨_, h1, h2⟩ := tO_sound hr.env hx
 obtain ⟨b, hb, rfl⟩ := h2.p_inv
 rcases hr.sim.has hk with ⟨_, _, _, q2⟩ | ⟨b', bk, q1, q2, q3⟩
 ·cases q2
 ·rw [hb] at q1; cases q1
  cases bk with
  | iter s' p' =>
   obtain ⟨rfl, rfl⟩ := q3
   have he : (HOp.next x).eval C.w0 venv st = some (.tuple #[.bool true, .int .i64 p', .int .i32 (Utf8.decode s' p').1], st.set b (.iter s' (p' + (Utf8.decode s' p').2))) := by
    simp only [HOp.eval, h1, q2, and_self, if_true, if_pos hp]
   simp only [COp.step, he]
   refine ⟨keepAll_sound hr.sim hr.env (.inl (by rw [hk]; rfl)) (fun c _ hc => set_ne _ _ (fun e => hc (e ▸ hb))) (fun b o n hcs => by obtain ⟨_, _, hcs⟩ := hcs; rw [hk] at hcs; cases hcs) hks, ?_⟩
   refine h _ _ _ _ (RelT.putO (hr.set hk hb (show CRel C.w0 st Φ ν (.iter s' _) (.iter s' _) from ⟨rfl, rfl⟩)) ?_ d)
   exact TRel.tup_of (.cons (.f _ _ (.v _ rfl)) (.cons (.f _ _ (.v _ rfl)) (.one (.f _ _ (.v _ rfl)))))
  | _ => exact q3.elim

theorem tr_next_end {x : Operand} {k pos : Nat} {s : ByteArray} (hx : tO env x = some (.p k 0)) (hk : σ.get k = some (.iter s pos)) (hks : keepAllT env σ k 0 0 ks = true) (hp : ¬ pos < s.size)
  (h : TwR C rest K (putT d (.tup [.v (.bool false)]) env) σ) : TwR C (⟨d, none, .heavy (.next x), q, ks⟩ :: rest) K env σ := by
 intro venv st Φ ν hr
 refine ⟨fun _ => ?_, fun h => by simp at h⟩
 obtain ⟨_, h1, h2⟩ := tO_sound hr.env hx
 obtain ⟨b, hb, rfl⟩ := h2.p_inv
 rcases hr.sim.has hk with ⟨_, _, _, q2⟩ | ⟨b', bk, q1, q2, q3⟩
 ·cases q2
 ·rw [hb] at q1; cases q1
  cases bk with
  | iter s' p' =>
   obtain ⟨rfl, rfl⟩ := q3
   have he : (HOp.next x).eval C.w0 venv st = some (.tuple #[.bool false], st) := by
    simp only [HOp.eval, h1, q2, and_self, if_true, if_neg hp]
   simp only [COp.step, he]
   exact ⟨fun _ _ _ h => h, h _ _ _ _ (hr.putO (TRel.tup_of (.one (.f _ _ (.v _ rfl)))) d)⟩
  | _ => exact q3.elim

theorem Fz.vb {σ : TS} {a b : Bool} (h : a = b) : Fz σ (.v (.bool a)) (.v (.bool b)) := by subst h; exact .f _ rfl
theorem Fz.vi {σ : TS} {k : IntKind} {a b : Int} (h : a = b) : Fz σ (.v (.int k a)) (.v (.int k b)) := by subst h; exact .f _ rfl
theorem pq_eq_bool {P : Program} (d : Nat) {t : TypeId} (h : P.underlying t = some .bool) (a b : Bool) : pureV P (Op.equalIn (d + 1) t (.bool a) (.bool b)) = some (a == b) := by simp [Op.equalIn, pq_bind, pq_underlying h, pq_pure]
theorem tl_eqb {P : Program} {w0 : World} {ty : TypeId} {x y : Operand} {a b : Bool} (ht : P.underlying ty = some .bool) (hx : tO env x = some (.v (.bool a))) (hy : tO env y = some (.v (.bool b))) : TL P w0 env σ (.bin .eql ty x y) (.v (.bool (a == b))) := by
 intro venv st Φ ν hs he
 obtain ⟨_, h1, h2⟩ := tO_sound he hx
 obtain ⟨_, h3, h4⟩ := tO_sound he hy
 obtain ⟨rfl, _⟩ := h2.v_inv
 obtain ⟨rfl, _⟩ := h4.v_inv
 refine ⟨_, ?_, .f _ _ (.v _ rfl)⟩
 simp only [LOp.eval, h1, h3, flatV, atom, Bool.and_self, if_true]
 have h5 : pureV P (Op.equal ty (.bool a) (.bool b)) = some (a == b) := pq_eq_bool 9999 ht a b
 have h6 : eqGuard .eql ty x y (.bool a) (.bool b) = Sem.pure () := guard_bool ..
 simp only [pureF, pq_bind, h6, pureV, Option.bind_some, binOp]
 simp [h5, pq_pure, flatV, atom]
theorem tl_neb {P : Program} {w0 : World} {ty : TypeId} {x y : Operand} {a b : Bool} (ht : P.underlying ty = some .bool) (hx : tO env x = some (.v (.bool a))) (hy : tO env y = some (.v (.bool b))) : TL P w0 env σ (.bin .neq ty x y) (.v (.bool (!(a == b)))) := by
 intro venv st Φ ν hs he
 obtain ⟨_, h1, h2⟩ := tO_sound he hx
 obtain ⟨_, h3, h4⟩ := tO_sound he hy
 obtain ⟨rfl, _⟩ := h2.v_inv
 obtain ⟨rfl, _⟩ := h4.v_inv
 refine ⟨_, ?_, .f _ _ (.v _ rfl)⟩
 simp only [LOp.eval, h1, h3, flatV, atom, Bool.and_self, if_true]
 have h5 : pureV P (Op.equal ty (.bool a) (.bool b)) = some (a == b) := pq_eq_bool 9999 ht a b
 have h6 : eqGuard .neq ty x y (.bool a) (.bool b) = Sem.pure () := guard_bool ..
 simp only [pureF, pq_bind, h6, pureV, Option.bind_some, binOp]
 simp [h5, pq_pure, flatV, atom]

theorem tr_split {rs : List ROp} (i : Nat) {b : Bool} (hi : look i env = some (.v (.bool b))) (h1 : b = true → TwR C rs K ((i, .v (.bool true)) :: env) σ) (h2 : b = false → TwR C rs K ((i, .v (.bool false)) :: env) σ) : TwR C rs K env σ := by
 have hw : ∀ c, b = c → Weak C env σ ((i, .v (.bool c)) :: env) σ := by
  rintro c rfl
  refine w_env fun t x ht => ?_
  rw [look_cons] at ht
  split at ht
  ·rename_i e; subst e; cases ht; exact hi
  ·exact ht
 cases b with
 | true => exact tr_weak (hw true rfl) (h1 rfl)
 | false => exact tr_weak (hw false rfl) (h2 rfl)
theorem gS {i : Nat} {w b : Bool} {o : COp} (hi : look i env = some (.v (.bool b))) (h1 : b = true → TwR C (⟨d, some (i, w), o, q, ks⟩ :: rest) K ((i, .v (.bool true)) :: env) σ)
  (h2 : b = false → TwR C (⟨d, some (i, w), o, q, ks⟩ :: rest) K ((i, .v (.bool false)) :: env) σ) : TwR C (⟨d, some (i, w), o, q, ks⟩ :: rest) K env σ := tr_split i hi h1 h2
variable {Q : TQ}
theorem use_K {b : S} (hK : ∀ env σ, TwS C b Q env σ → K env σ) (h : TwS C b Q env σ) : thenT K Q .normal env σ := hK _ _ h
theorem th_ret (h : Q .ret env σ) : thenT K Q .ret env σ := h
theorem th_exit {i : Nat} (h : Q (.exit i) env σ) : thenT K Q (.exit i) env σ := h
theorem bl_normal {i : Nat} (h : Q .normal env σ) : inBlockT i Q .normal env σ := h
theorem bl_ret {i : Nat} (h : Q .ret env σ) : inBlockT i Q .ret env σ := h
theorem bl_hit {i : Nat} (h : Q .normal env σ) : inBlockT i Q (.exit i) env σ := by simp only [inBlockT, if_true]; exact h
theorem bl_miss {i j : Nat} (hj : Nat.beq j i = false) (h : Q (.exit j) env σ) : inBlockT i Q (.exit j) env σ := by
 simp only [inBlockT]
 rw [if_neg (fun e => by subst e; simp at hj)]
 exact h
theorem tret_of {rs : List (Nat × Option (Nat × Bool))} {R : TV → TS → Prop} {l : List TV} {e : Exit} (he : e = .normal ∨ e = .ret) (hl : tresAll env σ rs = some l) (h : R (tresV l) σ) : retT rs R e env σ := by
 rcases he with rfl | rfl <;> exact ⟨l, hl, h⟩
theorem loop_again {I : Nat → TEnv → TS → Prop} {m m' : Nat} {env' : TEnv} {σ' : TS} (hm : m' < m) (hw : Weak C env σ env' σ') (h : I m' env' σ') : thenT (fun env' σ' => ∃ m' env2 σ2, m' < m ∧ Weak C env' σ' env2 σ2 ∧ I m' env2 σ2) Q .normal env σ := ⟨m', env', σ', hm, hw, h⟩

theorem RenO.rowsE {bk : List (Nat × Nat)} {sz : Nat} {xs ys : List (List TV)} {ty : TypeId} (h : xs = ys) : RenO bk (.rows sz xs ty) (.rows sz ys ty) := by subst h; exact .rows _ _ _
theorem RenV.sE {bk : List (Nat × Nat)} {k k' sz o n n' : Nat} {c : Bool} (hk : look k' bk = some k) (h : n = n') : RenV bk (.s k sz o n c) (.s k' sz o n' c) := by subst h; exact .s _ _ _ _ _ _ hk
theorem RenV.fE {bk : List (Nat × Nat)} {x y : TV} (hf : frozV x = true) (h : x = y) : RenV bk x y := by subst h; exact .f _ hf

def subE (env : TEnv) : List Nat → Option TEnv
 | [] => some []
 | t :: r => match look t env with
  | some x => match subE env r with
   | some l => some ((t, x) :: l)
   | none => none
  | none => none

theorem subE_look : ∀ {l : List Nat} {env' : TEnv}, subE env l = some env' → ∀ t x, look t env' = some x → look t env = some x
 | [], _, h, t, x, ht => by cases h; cases ht
 | u :: r, env', h, t, x, ht => by
  simp only [subE] at h
  split at h
  ·rename_i y hy
   split at h
   ·rename_i l' hl
    cases h
    rw [look_cons] at ht
    split at ht
    ·rename_i e; subst e; cases ht; exact hy
    ·exact subE_look hl t x ht
   ·cases h
  ·cases h
theorem w_sub (l : List Nat) {env' : TEnv} (h : subE env l = some env') : Weak C env σ env' σ := w_env (subE_look h)

end
end Go.Proofs.YtnphhelbianjpaaGreatDoor.V
namespace Go.Proofs.YtnphhelbianjpaaGreatDoor.V
open Go Go.RowKit

theorem Sim.grow {P : Program} {w0 : World} {μ : Mp} {st : St} {w w' : World} (h : Sim P w0 μ st w) (hb : Below w.heap.size w w') : Sim P w0 μ st w' := by
 have hk : ∀ b m, μ b = some m → w'.heap[m.blk]? = w.heap[m.blk]? := fun b m hm => hb.block _ (h.lo b m hm).2.2
 refine ⟨h.old.trans (hb.mono h.old.size), h.next, h.fresh, ?_, h.hi, ?_, ?_, ?_, h.inj⟩
 ·intro b m hm
  obtain ⟨h1, h2, h3⟩ := h.lo b m hm
  exact ⟨h1, h2, Nat.lt_of_lt_of_le h3 hb.size⟩
 ·intro b cs ty m hs hm
  have := h.cells b cs ty m hs hm
  rw [hk b m hm]; exact this
 ·intro b es m hs hm
  have := h.maps b es m hs hm
  rw [hk b m hm]; exact this
 ·intro b s pos m hs hm
  have := h.iters b s pos m hs hm
  rw [hk b m hm]; exact this

theorem Pure.world {P : Program} {G : World → Prop} {f : FuncId} (hE : Enters P f) {vs : List Value} {v : Value} (ha : vs.all atom = true) (hv : flatV v = true)
  (h : ∀ w0 w, G w0 → Below w0.heap.size w0 w → Calls P f vs.toArray w fun e w' => e = .returned v ∧ Below w.heap.size w w') : Pure P G f (vs.map .v) (toTV v) := by
 intro w0 st Φ vargs hg ho hΦ hr
 have hvs : vargs = vs := by
  have hl := hr.len
  rw [lM] at hl
  apply List.ext_getElem hl.symm
  intro i h1 h2
  exact (TRel.v_inv (ν := fun _ => none) (.f _ _ (hr.rel i (.v vs[i]) vargs[i] (by simp [h2]) (by simp [h1])))).1
 subst hvs
 refine ⟨hE, fun μ w args' hsim hrel => ?_⟩
 have harg : args' = vargs := by
  apply List.ext_getElem hrel.len.symm
  intro i h1 h2
  exact (hrel.rel i vargs[i] args'[i] (by simp) (by simp)).atom_eq (List.all_eq_true.1 ha _ (List.getElem_mem ..))
 subst harg
 refine (h w0 w hg hsim.old).mono ?_
 rintro e w' ⟨rfl, hb⟩
 exact ⟨v, v, st, μ, rfl, VRel.flat hv, ⟨FRel.flat hv, St.le.refl _⟩, hsim.grow hb, Ext.refl _, Keep.refl _ _⟩

theorem Pure.cond {P : Program} {G G' : World → Prop} {f : FuncId} {args : List TV} {r : TV} (hG : ∀ w, G' w → G w) (h : Pure P G f args r) : Pure P G' f args r :=
 fun w0 st Φ vargs hg => h w0 st Φ vargs (hG w0 hg)

section
variable {P : Program} {w0 : World} {env : TEnv} {σ : TS}
theorem tl_ixo {sz : Nat} {x i : Operand} {k n m : Nat} {c : Bool} {ki : IntKind} {j : Int} (hx : tO env x = some (.s k sz 0 n c)) (hi : tO env i = some (.v (.int ki j))) (hj : j = (m : Int)) (hm : m < n) : TL P w0 env σ (.iaS sz x i) (.e k sz m 0) := by
 subst hj
 have := tl_iaSo (P := P) (w0 := w0) (σ := σ) (xs := []) (ty := 0) hx hi (by omega)
 rwa [Nat.zero_add, Int.toNat_natCast] at this
theorem tl_ixf {sz : Nat} {x i : Operand} {xs : List (List TV)} {k : IntKind} {j : Int} {m : Nat} {c : List TV} (hx : tO env x = some (.lst sz xs)) (hi : tO env i = some (.v (.int k j))) (hj : j = (m : Int)) (hc : xs[m]? = some c) :
  TL P w0 env σ (.iaS sz x i) (.fp c 0) := by
 subst hj
 exact tl_iaS hx hi (by omega) (by rwa [Int.toNat_natCast])
theorem tl_ixm {α : Type} {f : α → List TV} {sz : Nat} {x i : Operand} {xs : List α} {k : IntKind} {j : Int} {m : Nat} {c : α} (hx : tO env x = some (.lst sz (xs.map f))) (hi : tO env i = some (.v (.int k j))) (hj : j = (m : Int)) (hc : xs[m]? = some c) :
  TL P w0 env σ (.iaS sz x i) (.fp (f c) 0) := tl_ixf hx hi hj (by rw [List.getElem?_map, hc]; rfl)
end

abbrev tI (i : Int) : TV := .v (.int .i64 i)
abbrev tB (b : Bool) : TV := .v (.bool b)
abbrev tS (s : ByteArray) : TV := .v (.string s)
end Go.Proofs.YtnphhelbianjpaaGreatDoor.V
namespace Go.Proofs.YtnphhelbianjpaaGreatDoor.V
open Go Go.RowKit

inductive Sh where
 | i (k : IntKind)
 | b
 | s

def Sh.fits : Sh → Value → Bool
 | .i k, .int k' _ => sameK k k'
 | .b, .bool _ => true
 | .s, .string _ => true
 | _, _ => false

def fitsL : List Sh → List Value → Bool
 | [], [] => true
 | a :: r, v :: l => a.fits v && fitsL r l
 | _, _ => false

def beqA : Value → Value → Bool
 | .int _ a, .int _ b => decide (a = b)
 | .bool a, .bool b => a == b
 | .string a, .string b => decide (a = b)
 | _, _ => false
def beqL : List Value → List Value → Bool
 | [], [] => true
 | a :: r, b :: l => beqA a b && beqL r l
 | _, _ => false

section
variable (P : Program)
def shapeFs (g : TypeId → Option (List Sh)) : List Field → Nat → Option (List Sh)
 | [], _ => some []
 | f :: r, pos => bif f.name != "_" && Nat.beq f.offset pos then match g f.type with
  | some l => match shapeFs g r (pos + l.length) with
   | some m => bif ((P.info? f.type).map (·.size)) == some l.length && Nat.blt 0 l.length then some (l ++ m) else none
   | none => none
  | none => none else none
def shapeOf : Nat → TypeId → Option (List Sh)
 | 0, _ => none
 | d + 1, t => match P.underlying t with
  | some .bool => some [.b]
  | some (.int k) => some [.i k]
  | some .string => some [.s]
  | some (.struct fs) => bif P.stoodInHeld t then none else shapeFs P (shapeOf d) fs.toList 0
  | some (.array n e) => match shapeOf d e with
   | some l => bif ((P.info? e).map (·.size)) == some l.length && Nat.blt 0 l.length then some (List.replicate n l).flatten else none
   | none => none
  | _ => none
end

section
variable {P : Program}

def valT (P : Program) (t : TypeId) (xs : List Value) : Value := match (P.underlying t).map aggD, xs with
 | some false, v :: _ => v
 | _, xs => .agg xs.toArray

theorem fits_split : ∀ {a b : List Sh} {xs : List Value}, fitsL (a ++ b) xs = true → fitsL a (xs.take a.length) = true ∧ fitsL b (xs.drop a.length) = true ∧ a.length ≤ xs.length
 | [], b, xs, h => ⟨by cases xs <;> rfl, h, Nat.zero_le _⟩
 | x :: a, b, [], h => by cases h
 | x :: a, b, v :: xs, h => by
  simp only [List.cons_append, fitsL, Bool.and_eq_true] at h
  obtain ⟨h1, h2, h3⟩ := fits_split h.2
  exact ⟨by simp [fitsL, h.1, h1], by simpa using h2, by simp; omega⟩
theorem fits_len : ∀ {a : List Sh} {xs : List Value}, fitsL a xs = true → xs.length = a.length
 | [], [], _ => rfl
 | [], _ :: _, h => by cases h
 | _ :: _, [], h => by cases h
 | x :: a, v :: xs, h => by
  simp only [fitsL, Bool.and_eq_true] at h
  simp [fits_len h.2]
theorem beq_split : ∀ {n : Nat} {xs ys : List Value}, n ≤ xs.length → n ≤ ys.length → beqL xs ys = (beqL (xs.take n) (ys.take n) && beqL (xs.drop n) (ys.drop n))
 | 0, xs, ys, _, _ => by simp [beqL]
 | n + 1, [], ys, h, _ => by simp at h
 | n + 1, _ :: _, [], _, h => by simp at h
 | n + 1, x :: xs, y :: ys, h1, h2 => by
  simp only [beqL, List.take_succ_cons, List.drop_succ_cons, beq_split (n := n) (xs := xs) (ys := ys) (by simpa using h1) (by simpa using h2), Bool.and_assoc]

theorem pq_isAgg {t : TypeId} {d : TypeDesc} (h : P.underlying t = some d) : pureV P (isAgg t) = some (aggD d) := by
 simp only [isAgg, pq_bind, pq_underlying h, Option.bind_some]
 cases d <;> rfl
theorem pq_size {t : TypeId} {n : Nat} (h : (P.info? t).map (·.size) = some n) : pureV P (sizeOf t) = some n := by
 cases hi : P.info? t with
 | none => simp [hi] at h
 | some i =>
  simp [hi] at h
  subst h
  have hti : pureV P (typeInfo t) = some i := by
   simp only [typeInfo, pq_bind, show pureV P program = some P from rfl, Option.bind_some, hi, pq_pure]
  simp only [sizeOf, pq_bind, hti, Option.bind_some, pq_pure]

theorem pq_part {t : TypeId} {d : TypeDesc} {sh : List Sh} {xs : List Value} {off : Nat} (hu : P.underlying t = some d) (hs : (P.info? t).map (·.size) = some sh.length) (h0 : 0 < sh.length) (hd : aggD d = false → sh.length = 1) (hl : off + sh.length ≤ xs.length) :
  pureV P (part t xs.toArray off) = some (valT P t ((xs.drop off).take sh.length)) := by
 simp only [part, pq_bind, pq_isAgg hu, Option.bind_some, valT, hu, Option.map_some]
 cases hb : aggD d with
 | true =>
  simp only [if_true, pq_bind, pq_size hs, Option.bind_some, pq_pure]
  congr 2
  apply Array.ext'
  simp [List.extract_eq_take_drop]
 | false =>
  have h1 := hd hb
  have hlt : off < xs.length := by omega
  simp only [Bool.false_eq_true, if_false]
  rw [show xs.toArray[off]? = some xs[off] by simp [hlt]]
  rw [h1, List.drop_eq_getElem_cons hlt]
  rfl

theorem sh_single {d : Nat} {t : TypeId} {sh : List Sh} (h : shapeOf P d t = some sh) {D : TypeDesc} (hu : P.underlying t = some D) (ha : aggD D = false) : sh.length = 1 := by
 cases d with
 | zero => cases h
 | succ d =>
  simp only [shapeOf, hu] at h
  cases D <;> simp only [reduceCtorEq] at h
  all_goals first
   | (cases h; rfl)
   | (simp [aggD] at ha)

def eqFs (P : Program) (d : Nat) (xs ys : Array Value) : List Field → Option Bool
 | [] => some true
 | f :: fs =>
  if f.name ≠ "_" then
   (pureV P (part f.type xs f.offset)).bind fun a => (pureV P (part f.type ys f.offset)).bind fun b => (pureV P (Op.equalIn d f.type a b)).bind fun r => if r then eqFs P d xs ys fs else some false
  else eqFs P d xs ys fs

theorem pq_equal_struct (d : Nat) {t : TypeId} (xs ys : Array Value) {fs : Array Field} (ht : P.underlying t = some (.struct fs)) (hp : P.stoodInHeld t = false) :
  pureV P (Op.equalIn (d + 1) t (.agg xs) (.agg ys)) = eqFs P d xs ys fs.toList := by
 simp only [Op.equalIn, pq_bind, pq_underlying ht, Option.bind_some, show pureV P program = some P from rfl, hp, Bool.false_eq_true, if_false]
 rw [← Array.forIn_toList]
 generalize fs.toList = l
 clear ht
 induction l with
 | nil => simp [eqFs, pq_pure]
 | cons f l ih =>
  simp only [List.forIn_cons, eqFs]
  split
  ·simp only [pq_bind]
   cases h1 : pureV P (part f.type xs f.offset) with
   | none => simp
   | some a =>
    cases h2 : pureV P (part f.type ys f.offset) with
    | none => simp
    | some b =>
     cases h3 : pureV P (Op.equalIn d f.type a b) with
     | none => simp [h3]
     | some r =>
      cases r
      ·simp [h3, pq_pure]
      ·simp only [Option.bind_some, h3, Bool.not_true, Bool.false_eq_true, if_false, if_true, pq_pure]
       exact ih
  ·simp only [pq_pure, pq_bind, Option.bind_some]
   exact ih

theorem eqFs_sound (d : Nat) (ih : ∀ (t : TypeId) (sh : List Sh), shapeOf P d t = some sh → ∀ xs ys : List Value, fitsL sh xs = true → fitsL sh ys = true → pureV P (Op.equalIn d t (valT P t xs) (valT P t ys)) = some (beqL xs ys)) :
  ∀ (fs : List Field) (pos : Nat) (sh : List Sh) (xs ys : List Value), shapeFs P (shapeOf P d) fs pos = some sh → fitsL sh (xs.drop pos) = true → fitsL sh (ys.drop pos) = true → pos ≤ xs.length → pos ≤ ys.length →
  eqFs P d xs.toArray ys.toArray fs = some (beqL (xs.drop pos) (ys.drop pos))
 | [], pos, sh, xs, ys, h, hx, hy, _, _ => by
  cases h
  have e1 : xs.drop pos = [] := List.length_eq_zero_iff.1 (fits_len hx)
  have e2 : ys.drop pos = [] := List.length_eq_zero_iff.1 (fits_len hy)
  rw [e1, e2]
  rfl
 | f :: r, pos, sh, xs, ys, h, hx, hy, hpx, hpy => by
  simp only [shapeFs] at h
  cases hn : (f.name != "_" && Nat.beq f.offset pos) with
  | false => simp [hn] at h
  | true =>
   rw [hn, cond_true] at h
   simp only [Bool.and_eq_true, bne_iff_ne] at hn
   obtain ⟨hn1, hn2⟩ := hn
   have hoff := Nat.eq_of_beq_eq_true hn2
   split at h
   ·rename_i l hl
    split at h
    ·rename_i m hm
     cases hs : (((P.info? f.type).map (·.size)) == some l.length && Nat.blt 0 l.length) with
     | false => simp [hs] at h
     | true =>
      rw [hs, cond_true] at h
      cases h
      simp only [Bool.and_eq_true, beq_iff_eq] at hs
      have hl0 : 0 < l.length := by have := hs.2; simp [Nat.blt] at this; omega
      obtain ⟨x1, x2, x3⟩ := fits_split hx
      obtain ⟨y1, y2, y3⟩ := fits_split hy
      simp only [List.length_drop] at x3 y3
      rw [List.drop_drop] at x2 y2
      obtain ⟨D, hD⟩ : ∃ D, P.underlying f.type = some D := by
       cases hu : P.underlying f.type with
       | none =>
        cases d with
        | zero => cases hl
        | succ d => simp [shapeOf, hu] at hl
       | some D => exact ⟨D, rfl⟩
      have p1 := pq_part (P := P) (xs := xs) hD hs.1 hl0 (fun ha => sh_single hl hD ha) (off := pos) (by omega)
      have p2 := pq_part (P := P) (xs := ys) hD hs.1 hl0 (fun ha => sh_single hl hD ha) (off := pos) (by omega)
      have e1 := ih f.type l hl _ _ x1 y1
      have e2 := eqFs_sound d ih r (pos + l.length) m xs ys hm x2 y2 (by omega) (by omega)
      rw [beq_split (n := l.length) (xs := xs.drop pos) (ys := ys.drop pos) (by simp; omega) (by simp; omega), List.drop_drop, List.drop_drop]
      simp only [eqFs, if_pos hn1, hoff, p1, p2, Option.bind_some, e1, e2]
      cases beqL ((xs.drop pos).take l.length) ((ys.drop pos).take l.length) <;> rfl
    ·cases h
   ·cases h

def eqAr (P : Program) (d : Nat) (e : TypeId) (sz : Nat) (xs ys : Array Value) : List Nat → Option Bool
 | [] => some true
 | i :: r => (pureV P (part e xs (i * sz))).bind fun a => (pureV P (part e ys (i * sz))).bind fun b => (pureV P (Op.equalIn d e a b)).bind fun q => if q then eqAr P d e sz xs ys r else some false

theorem pq_equal_array (d n sz : Nat) {t e : TypeId} (xs ys : Array Value) (ht : P.underlying t = some (.array n e)) (hs : (P.info? e).map (·.size) = some sz) :
  pureV P (Op.equalIn (d + 1) t (.agg xs) (.agg ys)) = eqAr P d e sz xs ys (List.range' 0 n) := by
 simp only [Op.equalIn, pq_bind, pq_underlying ht, Option.bind_some, pq_size hs]
 simp only [Std.Legacy.Range.forIn_eq_forIn_range', Std.Legacy.Range.size, Nat.sub_zero, Nat.add_sub_cancel, Nat.div_one]
 generalize List.range' 0 n = l
 induction l with
 | nil => simp [eqAr, pq_pure]
 | cons i l ih =>
  simp only [List.forIn_cons, eqAr, pq_bind]
  cases h1 : pureV P (part e xs (i * sz)) with
  | none => simp
  | some a =>
   cases h2 : pureV P (part e ys (i * sz)) with
   | none => simp
   | some b =>
    cases h3 : pureV P (Op.equalIn d e a b) with
    | none => simp [h3]
    | some r =>
     cases r
     ·simp [h3, pq_pure]
     ·simp only [Option.bind_some, h3, Bool.not_true, Bool.false_eq_true, if_false, if_true, pq_pure]
      exact ih

theorem eqAr_sound (d : Nat) {e : TypeId} {l : List Sh} (hl : shapeOf P d e = some l) (hs : (P.info? e).map (·.size) = some l.length) (hl0 : 0 < l.length)
  (ih : ∀ (t : TypeId) (sh : List Sh), shapeOf P d t = some sh → ∀ xs ys : List Value, fitsL sh xs = true → fitsL sh ys = true → pureV P (Op.equalIn d t (valT P t xs) (valT P t ys)) = some (beqL xs ys)) :
  ∀ (n k : Nat) (xs ys : List Value), fitsL (List.replicate n l).flatten (xs.drop (k * l.length)) = true → fitsL (List.replicate n l).flatten (ys.drop (k * l.length)) = true → k * l.length ≤ xs.length → k * l.length ≤ ys.length →
  eqAr P d e l.length xs.toArray ys.toArray (List.range' k n) = some (beqL (xs.drop (k * l.length)) (ys.drop (k * l.length)))
 | 0, k, xs, ys, hx, hy, _, _ => by
  have e1 : xs.drop (k * l.length) = [] := List.length_eq_zero_iff.1 (fits_len hx)
  have e2 : ys.drop (k * l.length) = [] := List.length_eq_zero_iff.1 (fits_len hy)
  rw [e1, e2]
  rfl
 | n + 1, k, xs, ys, hx, hy, hpx, hpy => by
  rw [List.replicate_succ, List.flatten_cons] at hx hy
  obtain ⟨x1, x2, x3⟩ := fits_split hx
  obtain ⟨y1, y2, y3⟩ := fits_split hy
  simp only [List.length_drop] at x3 y3
  rw [List.drop_drop] at x2 y2
  obtain ⟨D, hD⟩ : ∃ D, P.underlying e = some D := by
   cases hu : P.underlying e with
   | none =>
    cases d with
    | zero => cases hl
    | succ d => simp [shapeOf, hu] at hl
   | some D => exact ⟨D, rfl⟩
  have p1 := pq_part (P := P) (xs := xs) hD hs hl0 (fun ha => sh_single hl hD ha) (off := k * l.length) (by omega)
  have p2 := pq_part (P := P) (xs := ys) hD hs hl0 (fun ha => sh_single hl hD ha) (off := k * l.length) (by omega)
  have e1 := ih e l hl _ _ x1 y1
  have ek : k * l.length + l.length = (k + 1) * l.length := by rw [Nat.add_mul]; omega
  rw [ek] at x2 y2
  have e2 := eqAr_sound d hl hs hl0 ih n (k + 1) xs ys x2 y2 (by omega) (by omega)
  rw [beq_split (n := l.length) (xs := xs.drop (k * l.length)) (ys := ys.drop (k * l.length)) (by simp; omega) (by simp; omega), List.drop_drop, List.drop_drop, ek]
  simp only [List.range'_succ, eqAr, p1, p2, Option.bind_some, e1, e2]
  cases beqL ((xs.drop (k * l.length)).take l.length) ((ys.drop (k * l.length)).take l.length) <;> rfl

theorem eq_sound : ∀ (d : Nat) (t : TypeId) (sh : List Sh), shapeOf P d t = some sh → ∀ xs ys : List Value, fitsL sh xs = true → fitsL sh ys = true → pureV P (Op.equalIn d t (valT P t xs) (valT P t ys)) = some (beqL xs ys)
 | 0, _, _, h, _, _, _, _ => by cases h
 | d + 1, t, sh, h, xs, ys, hx, hy => by
  simp only [shapeOf] at h
  cases hu : P.underlying t with
  | none => simp [hu] at h
  | some D =>
   rw [hu] at h
   cases D with
   | bool =>
    cases h
    match xs, ys, hx, hy with
    | [.bool a], [.bool b], _, _ => simp [valT, hu, aggD, Op.equalIn, pq_bind, pq_underlying hu, pq_pure, beqL, beqA]
   | int k =>
    cases h
    match xs, ys, hx, hy with
    | [.int ka a], [.int kb b], hx, hy =>
     simp only [fitsL, Sh.fits, Bool.and_true] at hx hy
     have h1 := sameK_eq hx
     have h2 := sameK_eq hy
     subst h1; subst h2
     simp [valT, hu, aggD, Op.equalIn, pq_bind, pq_underlying hu, pq_pure, beqL, beqA]
     rw [Bool.eq_iff_iff]; simp
    | .int _ _ :: _ :: _, _, hx, _ => simp [fitsL] at hx
    | [.int _ _], .int _ _ :: _ :: _, _, hy => simp [fitsL] at hy
   | string =>
    cases h
    match xs, ys, hx, hy with
    | [.string a], [.string b], _, _ =>
     simp only [valT, hu, aggD, Option.map_some, Op.equalIn, pq_bind, pq_underlying hu, pq_pure, Option.bind_some, beqL, beqA, Bool.and_true]
     congr 1
     rw [Bool.eq_iff_iff]
     constructor
     ·intro h; exact dT (ba_eq h)
     ·intro h; rw [of_decide_eq_true h]; exact ba_refl b
   | struct fs =>
    simp only at h
    cases hp : P.stoodInHeld t with
    | true => simp [hp] at h
    | false =>
     rw [hp, cond_false] at h
     have := eqFs_sound d (eq_sound d) fs.toList 0 sh xs ys h hx hy (Nat.zero_le _) (Nat.zero_le _)
     simp only [valT, hu, aggD, Option.map_some]
     rw [pq_equal_struct d _ _ hu hp, this, List.drop_zero, List.drop_zero]
   | array n e =>
    simp only at h
    split at h
    ·rename_i l hl
     cases hs : (((P.info? e).map (·.size)) == some l.length && Nat.blt 0 l.length) with
     | false => simp [hs] at h
     | true =>
      rw [hs, cond_true] at h
      cases h
      simp only [Bool.and_eq_true, beq_iff_eq] at hs
      have hl0 : 0 < l.length := by have := hs.2; simp [Nat.blt] at this; omega
      have := eqAr_sound d hl hs.1 hl0 (eq_sound d) n 0 xs ys (by simpa using hx) (by simpa using hy) (by simp) (by simp)
      simp only [valT, hu, aggD, Option.map_some]
      rw [pq_equal_array d n l.length _ _ hu hs.1, this]
      simp
    ·cases h
   | _ => simp at h

def vsOf : List TV → Option (List Value)
 | [] => some []
 | .v a :: r => match vsOf r with
  | some l => some (a :: l)
  | none => none
 | _ :: _ => none

theorem vsOf_rel {w0 : World} {st : St} {Φ : Nat → Prop} {ν : Nu} : ∀ {cs : List TV} {xs vs : List Value}, vsOf cs = some xs → RelL w0 st Φ ν cs vs → vs = xs ∧ xs.all atom = true
 | [], xs, vs, h, hr => by cases h; exact ⟨List.length_eq_zero_iff.1 hr.len.symm, rfl⟩
 | .v a :: r, xs, vs, h, hr => by
  simp only [vsOf] at h
  split at h
  ·rename_i l hl
   cases h
   match vs, hr with
   | v :: vs, hr =>
    obtain ⟨h1, h2⟩ := vsOf_rel hl (vs := vs) ⟨by simpa using hr.len, fun i x y hx hy => hr.rel (i + 1) x y (by simpa using hx) (by simpa using hy)⟩
    obtain ⟨rfl, h4⟩ := (hr.rel 0 _ _ rfl rfl).v_inv
    exact ⟨by rw [h1], by simp [h4, h2]⟩
   | [], hr => have := hr.len; simp at this
  ·cases h
 | .agg _ :: _, _, _, h, _ => by cases h
 | .tup _ :: _, _, _, h, _ => by cases h
 | .lst _ _ :: _, _, _, h, _ => by cases h
 | .fp _ _ :: _, _, _, h, _ => by cases h
 | .fm _ :: _, _, _, h, _ => by cases h
 | .ifc _ _ :: _, _, _, h, _ => by cases h
 | .p _ _ :: _, _, _, h, _ => by cases h
 | .e _ _ _ _ :: _, _, _, h, _ => by cases h
 | .s _ _ _ _ _ :: _, _, _, h, _ => by cases h
 | .m _ :: _, _, _, h, _ => by cases h

section
variable {w0 : World} {env : TEnv} {σ : TS}
theorem tl_eqS {op : BinOp} {neg : Bool} (hop : (op = .eql ∧ neg = false) ∨ (op = .neq ∧ neg = true)) {t : TypeId} {x y : Operand} {cs ds : List TV} {xs ys : List Value} {sh : List Sh} (hsh : shapeOf P 10000 t = some sh) (hagg : (P.underlying t).map aggD = some true) (hm : P.eqGuardType P.depth t = false)
  (hx : tO env x = some (.agg cs)) (hy : tO env y = some (.agg ds)) (h1 : vsOf cs = some xs) (h2 : vsOf ds = some ys) (f1 : fitsL sh xs = true) (f2 : fitsL sh ys = true) :
  TL P w0 env σ (.bin op t x y) (.v (.bool (neg ^^ beqL xs ys))) := by
 intro venv st Φ ν hs he
 obtain ⟨_, e1, e2⟩ := tO_sound he hx
 obtain ⟨_, e3, e4⟩ := tO_sound he hy
 obtain ⟨vs, rfl, r1⟩ := e2.agg_inv
 obtain ⟨ws, rfl, r2⟩ := e4.agg_inv
 obtain ⟨rfl, a1⟩ := vsOf_rel h1 r1
 obtain ⟨rfl, a2⟩ := vsOf_rel h2 r2
 refine ⟨_, ?_, .f _ _ (.v _ rfl)⟩
 have g1 : flatV (.agg vs) = true := by simp only [flatV]; rw [← Array.all_toList]; exact a1
 have g2 : flatV (.agg ws) = true := by simp only [flatV]; rw [← Array.all_toList]; exact a2
 have hq := eq_sound 10000 t sh hsh vs.toList ws.toList f1 f2
 simp only [valT, hagg] at hq
 have hq' : pureV P (Op.equal t (.agg vs) (.agg ws)) = some (beqL vs.toList ws.toList) := by
  show pureV P (Op.equalIn 10000 t (.agg vs) (.agg ws)) = _
  rw [Array.toArray_toList, Array.toArray_toList] at hq; exact hq
 have hg : pureV P (eqGuard op t x y (.agg vs) (.agg ws)) = some () := by
  rcases hop with ⟨rfl, _⟩ | ⟨rfl, _⟩ <;> simp [eqGuard, pq_bind, show pureV P program = some P from rfl, hm, pq_pure]
 simp only [LOp.eval, e1, e3, g1, g2, Bool.and_self, if_true]
 rcases hop with ⟨rfl, rfl⟩ | ⟨rfl, rfl⟩
 ·simp only [pureF, pq_bind, hg, Option.bind_some, binOp, hq', pq_pure, flatV, atom, if_true, Bool.false_xor]
 ·simp only [pureF, pq_bind, hg, Option.bind_some, binOp, hq', pq_pure, flatV, atom, if_true, Bool.true_xor]
theorem tl_eqs {t : TypeId} {x y : Operand} {cs ds : List TV} {xs ys : List Value} {sh : List Sh} (hsh : shapeOf P 10000 t = some sh) (hagg : (P.underlying t).map aggD = some true) (hm : P.eqGuardType P.depth t = false)
  (hx : tO env x = some (.agg cs)) (hy : tO env y = some (.agg ds)) (h1 : vsOf cs = some xs) (h2 : vsOf ds = some ys) (f1 : fitsL sh xs = true) (f2 : fitsL sh ys = true) :
  TL P w0 env σ (.bin .eql t x y) (.v (.bool (beqL xs ys))) := by
 have := tl_eqS (P := P) (w0 := w0) (σ := σ) (.inl ⟨rfl, rfl⟩) hsh hagg hm hx hy h1 h2 f1 f2
 rwa [Bool.false_xor] at this
theorem tl_nes {t : TypeId} {x y : Operand} {cs ds : List TV} {xs ys : List Value} {sh : List Sh} (hsh : shapeOf P 10000 t = some sh) (hagg : (P.underlying t).map aggD = some true) (hm : P.eqGuardType P.depth t = false)
  (hx : tO env x = some (.agg cs)) (hy : tO env y = some (.agg ds)) (h1 : vsOf cs = some xs) (h2 : vsOf ds = some ys) (f1 : fitsL sh xs = true) (f2 : fitsL sh ys = true) :
  TL P w0 env σ (.bin .neq t x y) (.v (.bool (!beqL xs ys))) := by
 have := tl_eqS (P := P) (w0 := w0) (σ := σ) (.inr ⟨rfl, rfl⟩) hsh hagg hm hx hy h1 h2 f1 f2
 rwa [Bool.true_xor] at this
end
end
end Go.Proofs.YtnphhelbianjpaaGreatDoor.V
namespace Go.Proofs.YtnphhelbianjpaaGreatDoor.V
open Go Go.RowKit Go.ChangeShapes Go.WideShapes

def st0 (W : World) : St := ⟨fun _ => none, W.heap.size⟩

theorem ok0 (W : World) : Ok W (st0 W) := ⟨Nat.le_refl _, fun _ _ => rfl, fun _ _ => rfl⟩

theorem sim0 (P : Program) (W : World) : Sim P W (fun _ => none) (st0 W) W :=
 {old := Below.refl _ _, next := Nat.le_refl _, fresh := fun _ _ => ⟨rfl, rfl⟩, lo := fun _ _ h => (by cases h), hi := fun _ _ => rfl, cells := fun _ _ _ _ h => (by cases h), maps := fun _ _ _ h => (by cases h), iters := fun _ _ _ _ h => (by cases h),
  inj := fun _ _ _ _ h => (by cases h) }

theorem law_calls {P : Program} {W : World} {f : FuncId} {args : List Value} (h : DCalls P W f args (st0 W) fun v _ => v = .bool true) (hr : ∀ v ∈ args, VRel P W.heap.size (fun _ => none) v v) :
  Calls P f args.toArray W fun e W' => e = .returned (.bool true) ∧ Below W.heap.size W W' := by
 refine (h.2 (fun _ => none) W args (sim0 P W) ⟨rfl, fun j x y hx hy => ?_⟩).mono ?_
 ·rw [hx] at hy; cases hy
  exact hr x (List.mem_of_getElem? hx)
 ·rintro e W' ⟨v, v', st', μ', rfl, hv, rfl, hs, _, _⟩
  exact ⟨by rw [hv.bool_eq], hs.old⟩

theorem law_pure {P : Program} {G : World → Prop} {W : World} {f : FuncId} {args : List TV} {vs : List Value} (h : Pure P G f args (.v (.bool true))) (hG : G W) (ha : RelF W (st0 W) (fun _ => False) args vs)
  (hr : ∀ v ∈ vs, VRel P W.heap.size (fun _ => none) v v) : Calls P f vs.toArray W fun e W' => e = .returned (.bool true) ∧ Below W.heap.size W W' := by
 have h1 := h W (st0 W) (fun _ => False) vs hG (ok0 W) (fun b hb => hb.elim) ha
 refine law_calls ⟨h1.1, fun μ w args' hs hr' => (h1.2 μ w args' hs hr').mono ?_⟩ hr
 rintro e w' ⟨v, v', st', μ', e1, e2, ⟨e3, _⟩, e4⟩
 refine ⟨v, v', st', μ', e1, e2, ?_, e4⟩
 cases e3; rfl

section
variable {H : Type} {enc : TypeId × Value → H} {P : Program}

theorem trodAll_below (hl : laidOutB P = true) {W W' : World} (hb : Below W.heap.size W W') : ∀ {ts : List TypeId} {vs : List Value} {ds : List (DataW H)} {ps : List MemPlace}, (∀ t ∈ ts, P.readableRec t = true ∧ t < P.types.size) →
  DataW.TrodAll enc P W 0 (fun _ => true) true ts vs ds ps → (∀ x ∈ ps, x.block < W.heap.size) → DataW.TrodAll enc P W' 0 (fun b => decide (b < W.heap.size)) true ts vs ds ps
 | [], [], [], _, _, h, _ => h
 | t :: ts, v :: vs, d :: ds, ps, ht, h, hp => by
  obtain ⟨p, q, h1, h2, rfl⟩ := h
  exact ⟨p, q, Below.trod hl (ht t (List.mem_cons_self ..)).1 (ht t (List.mem_cons_self ..)).2 h1 hb (fun x hx => hp x (List.mem_append_left _ hx)), trodAll_below hl hb (fun t' h' => ht t' (List.mem_cons_of_mem _ h')) h2 (fun x hx => hp x (List.mem_append_right _ hx)), rfl⟩
 | [], _ :: _, _, _, _, h, _ => h.elim
 | [], [], _ :: _, _, _, h, _ => h.elim
 | _ :: _, [], _, _, _, h, _ => h.elim
 | _ :: _, _ :: _, [], _, _, h, _ => h.elim

theorem law_post {fn : Func} {s : ChangeSpec} {apart fresh handsOn : Bool} {W W' : World} {args : Array Value} {ds gs : List (DataW H)} {before : List MemPlace} {tb : TypeId} (hl : laidOutB P = true)
  (ht : ∀ t ∈ fn.params.toList, P.readableRec t = true ∧ t < P.types.size) (hrt : fn.resultTypes = #[tb]) (htb : P.underlying tb = some .bool) (hs : s.vars = []) (hfn : s.fn H (ds ++ []) = { results := [.lit (.bool true)], args := ds })
  (hW : DataW.Whole enc P fn.params.toList s.vars apart W args.toList ds gs before) (hb : Below W.heap.size W W') : s.post enc P fn apart fresh handsOn false W args (.bool true) W' := by
 have hW' := hW
 obtain ⟨p, q, hA, hV, rfl, hfz, hnd⟩ := hW
 rw [hs] at hV
 cases gs with
 | cons _ _ => exact hV.elim
 | nil =>
 have hq : q = [] := hV
 subst hq
 refine ⟨ds, [], p ++ [], [], p, [], hW', ?_, ?_, ?_, hb.frame _, fun h => by cases h⟩
 ·rw [hrt, hfn]
  exact trodAll_mk1 ⟨1, by simp [DataW.trod, Value.cells, htb]⟩
 ·rw [hfn]
  exact trodAll_below hl hb ht hA fun x hx => by simpa using hW'.lt x (List.mem_append_left _ hx)
 ·rw [hs, hfn]; rfl
end

section
variable (P : Program)

def seqB : List Field → Nat → Nat → Bool
 | [], o, n => o == n
 | f :: r, o, n => f.offset == o && seqB r (o + P.cellsOf f.type) n

def fitB : Nat → TypeId → Bool
 | 0, _ => false
 | d + 1, t => match P.underlying t with
  | some .bool | some (.int _) | some .string => true
  | some (.slice e) => decide (0 < P.cellsOf e) && fitB d e
  | some (.struct fs) => seqB P fs.toList 0 (P.cellsOf t) && fs.toList.all fun f => fitB d f.type
  | some (.array n e) => P.cellsOf t == n * P.cellsOf e && fitB d e
  | _ => false

def TyL : Nat → TypeId → List TV → Prop
 | 0, _, _ => False
 | d + 1, t, cs => match P.underlying t with
  | some .bool => ∃ b, cs = [.v (.bool b)]
  | some (.int k) => ∃ n, cs = [.v (.int k n)] ∧ k.min ≤ n ∧ n ≤ k.max
  | some .string => ∃ s : ByteArray, cs = [.v (.string s)] ∧ s.size ≤ maxLen
  | some (.slice e) => ∃ xs, cs = [.lst (P.cellsOf e) xs] ∧ xs.length ≤ maxLen ∧ ∀ x ∈ xs, TyL d e x
  | some (.struct fs) => ∃ xs : List (List TV), cs = xs.flatten ∧ All2 (fun x (f : Field) => TyL d f.type x) xs fs.toList
  | some (.array n e) => ∃ xs : List (List TV), cs = xs.flatten ∧ xs.length = n ∧ ∀ x ∈ xs, TyL d e x
  | _ => False

end

theorem mapM_all {α β : Type} {g : α → Option β} : ∀ {l : List α} {ys : List β}, l.mapM g = some ys → ys.length = l.length ∧ ∀ (i : Nat) (x : α), l[i]? = some x → g x = ys[i]? := by
 intro l
 induction l with
 | nil => intro ys h; cases h; exact ⟨rfl, fun i x hx => by simp at hx⟩
 | cons a l ih =>
  intro ys h
  simp only [List.mapM_cons, Option.bind_eq_bind, Option.bind_eq_some_iff] at h
  obtain ⟨y, hy, zs, hz, h3⟩ := h
  cases h3
  obtain ⟨h4, h5⟩ := ih hz
  refine ⟨by simp [h4], fun i x hx => ?_⟩
  cases i with
  | zero => simp at hx; subst hx; simpa using hy
  | succ i => simp at hx; simpa using h5 i x hx

theorem mapM_some {α β : Type} {g : α → Option β} : ∀ {l : List α} {ys : List β}, l.mapM g = some ys → ∀ a ∈ l, ∃ y, g a = some y := by
 intro l
 induction l with
 | nil => intro ys _ a ha; cases ha
 | cons a l ih =>
  intro ys h b hb
  simp only [List.mapM_cons, Option.bind_eq_bind, Option.bind_eq_some_iff] at h
  obtain ⟨y, hy, zs, hz, _⟩ := h
  rcases List.mem_cons.1 hb with rfl | hb
  ·exact ⟨y, hy⟩
  ·exact ih hz b hb

theorem add_spot {a0 : Addr} {k : Nat} (h : (a0.add k).spot = none) (j : Nat) : (a0.add k).add j = a0.add (k + j) := by
 unfold Addr.add at *
 by_cases hk : k = 0
 ·subst hk; simp
 ·by_cases hj : j = 0
  ·subst hj; simp
  ·simp [hk, hj]; omega

theorem cells_old {W : World} {A : Addr} {n : Nat} {ys : List Value} (hn : 0 < n) (hl : ys.length = n) (hci : ∀ i, i < n → W.cell? (A.add i) = ys[i]?) : A.block < W.heap.size ∧ A.spot = none ∧
  (ys.all (inV W.heap.size) = true → ∀ st, cellsAt W st A n = some ys) := by
 have h0 := hci 0 hn
 have e0 : A.add 0 = A := by unfold Addr.add; rfl
 rw [e0] at h0
 have hy0 : ys[0]? = some (ys[0]'(by omega)) := List.getElem?_eq_getElem (by omega)
 rw [hy0] at h0
 unfold World.cell? at h0
 cases hb : W.heap[A.block]? with
 | none => simp [hb] at h0
 | some o =>
  cases o with
  | cells c ty fr =>
   simp only [hb] at h0
   split at h0
   ·cases h0
   ·rename_i hs
    have hsp : A.spot = none := by simpa using hs
    have hlt : A.block < W.heap.size := by
     rcases Nat.lt_or_ge A.block W.heap.size with h | h
     ·exact h
     ·rw [Array.getElem?_eq_none h] at hb; cases hb
    have cell : ∀ i, i < n → c[A.off + i]? = ys[i]? := by
     intro i hi
     rw [← hci i hi]
     have hbk : (A.add i).block = A.block := by unfold Addr.add; split <;> rfl
     have hof : (A.add i).off = A.off + i := by unfold Addr.add; split <;> simp_all
     have hsi : (A.add i).spot.isSome = false := by unfold Addr.add; split <;> simp [hsp]
     simp only [World.cell?, hbk, hb, hsi, hof, Bool.false_eq_true, if_false]
    have hfit : A.off + n ≤ c.toList.length := by
     have := cell (n - 1) (by omega)
     rw [List.getElem?_eq_getElem (by omega : n - 1 < ys.length)] at this
     have := (Array.getElem?_eq_some_iff.1 this).1
     simp; omega
    have e : (c.toList.drop A.off).take n = ys := by
     apply List.ext_getElem?
     intro i
     rw [List.getElem?_take]
     split
     ·rename_i hi'
      rw [List.getElem?_drop, ← cell i hi']; simp
     ·rw [List.getElem?_eq_none (by omega)]
    refine ⟨hlt, hsp, fun hi st => ?_⟩
    unfold cellsAt cellsOf
    simp only [if_pos hlt, hb]
    rw [if_pos ⟨hfit, hsp⟩, e, if_pos hi]
  | _ => simp [hb] at h0
theorem cells_some {W : World} {A : Addr} {n : Nat} {ys : List Value} (h : W.cells? 0 A n = some ys) : ys.length = n ∧ ∀ i, i < n → W.cell? (A.add i) = ys[i]? := by
 unfold World.cells? at h
 rw [if_pos (Nat.zero_le _)] at h
 obtain ⟨hl, hc⟩ := mapM_all h
 rw [List.length_range] at hl
 exact ⟨hl, fun i hi => hc i i (by rw [List.getElem?_range hi])⟩

section
variable {H : Type} {enc : TypeId × Value → H} {P : Program} {W : World} {st : St} {Φ : Nat → Prop} {base : Nat}

theorem RelF.nil : RelF W st Φ [] [] := ⟨rfl, fun i x y hx => by simp at hx⟩
theorem RelF.one {x : TV} {v : Value} (h : FRel W st Φ x v) : RelF W st Φ [x] [v] := ⟨rfl, fun i a b ha hb => by
 cases i with
 | zero => simp at ha hb; subst ha; subst hb; exact h
 | succ i => simp at ha⟩
theorem RelF.append {cs cs' : List TV} {vs vs' : List Value} (h : RelF W st Φ cs vs) (h' : RelF W st Φ cs' vs') : RelF W st Φ (cs ++ cs') (vs ++ vs') := by
 refine ⟨by simp [h.len, h'.len], fun i x y hx hy => ?_⟩
 have hl := h.len
 rcases Nat.lt_or_ge i cs.length with hi | hi
 ·rw [List.getElem?_append_left hi] at hx
  rw [List.getElem?_append_left (by omega)] at hy
  exact h.rel i x y hx hy
 ·rw [List.getElem?_append_right hi] at hx
  rw [List.getElem?_append_right (by omega), ← hl] at hy
  exact h'.rel _ x y hx hy

theorem rows_ty {d fuel : Nat} {e : TypeId} (ih : ∀ {cs : List Value} {x : DataW H × List MemPlace}, DataW.trod enc P W 0 (fun _ => true) true fuel e cs = some x → ∃ ts, TyL P d e ts ∧ RelF W st Φ ts cs ∧ cs.all (inV W.heap.size) = true)
  {a : Addr} (hz : 0 < P.cellsOf e) : ∀ {len : Nat}, (∀ i, i < len → ∃ ys y, W.cells? 0 (a.add (i * P.cellsOf e)) (P.cellsOf e) = some ys ∧ DataW.trod enc P W 0 (fun _ => true) true fuel e ys = some y) →
  ∃ (xs : List (List TV)) (vs : List Value), xs.length = len ∧ vs.length = len * P.cellsOf e ∧ (∀ x ∈ xs, x.length = P.cellsOf e) ∧ (∀ x ∈ xs, TyL P d e x) ∧ RelF W st Φ xs.flatten vs ∧ vs.all (inV W.heap.size) = true ∧ ∀ j, j < len * P.cellsOf e → W.cell? (a.add j) = vs[j]?
 | 0, _ => ⟨[], [], rfl, by simp, by simp, by simp, RelF.nil, rfl, fun j hj => by simp at hj⟩
 | len + 1, h => by
  obtain ⟨xs, vs, h1, h2, h3, h4, h5, h6, h7⟩ := rows_ty ih hz (a := a) (len := len) fun i hi => h i (by omega)
  obtain ⟨ys, y, hy, ht⟩ := h len (by omega)
  obtain ⟨hl, hc⟩ := cells_some hy
  obtain ⟨ts, t1, t2, t3⟩ := ih ht
  have hsp := (cells_old hz hl hc).2.1
  refine ⟨xs ++ [ts], vs ++ ys, by simp [h1], by rw [lA, h2, hl, Nat.add_mul]; omega, ?_, ?_, ?_, ?_, ?_⟩
  ·intro x hx
   rcases List.mem_append.1 hx with hx | hx
   ·exact h3 x hx
   ·simp at hx; subst hx; rw [t2.len, hl]
  ·intro x hx
   rcases List.mem_append.1 hx with hx | hx
   ·exact h4 x hx
   ·simp at hx; subst hx; exact t1
  ·rw [List.flatten_append]
   simpa using h5.append t2
  ·rw [List.all_append, h6, t3]; rfl
  ·intro j hj
   rw [Nat.add_mul] at hj
   rcases Nat.lt_or_ge j (len * P.cellsOf e) with hlt | hge
   ·rw [List.getElem?_append_left (by omega)]; exact h7 j hlt
   ·rw [List.getElem?_append_right (by omega), h2, ← hc _ (by omega), add_spot hsp]
    congr 2; omega

theorem parts_ty {d fuel : Nat} {cs : List Value} (ih : ∀ {t : TypeId} {cs : List Value} {x : DataW H × List MemPlace}, fitB P d t = true → DataW.trod enc P W 0 (fun _ => true) true fuel t cs = some x → ∃ ts, TyL P d t ts ∧ RelF W st Φ ts cs ∧ cs.all (inV W.heap.size) = true) :
  ∀ {fs : List Field} {o : Nat}, seqB P fs o cs.length = true → (fs.all fun f => fitB P d f.type) = true → (∀ f ∈ fs, ∃ y, DataW.trod enc P W 0 (fun _ => true) true fuel f.type ((cs.drop f.offset).take (P.cellsOf f.type)) = some y) →
  ∃ xs : List (List TV), All2 (fun x (f : Field) => TyL P d f.type x) xs fs ∧ RelF W st Φ xs.flatten (cs.drop o) ∧ (cs.drop o).all (inV W.heap.size) = true
 | [], o, hs, _, _ => by
  have : o = cs.length := by simpa [seqB] using hs
  subst this
  exact ⟨[], .nil, by simp; exact RelF.nil, by simp⟩
 | f :: r, o, hs, hf, h => by
  simp only [seqB, Bool.and_eq_true, beq_iff_eq] at hs
  simp only [List.all_cons, Bool.and_eq_true] at hf
  obtain ⟨h1, h2⟩ := hs
  obtain ⟨xs, a1, a2, a3⟩ := parts_ty ih (fs := r) h2 hf.2 fun g hg => h g (List.mem_cons_of_mem _ hg)
  obtain ⟨y, hy⟩ := h f (List.mem_cons_self ..)
  obtain ⟨ts, t1, t2, t3⟩ := ih hf.1 hy
  rw [h1] at t2 t3
  have e : cs.drop o = (cs.drop o).take (P.cellsOf f.type) ++ cs.drop (o + P.cellsOf f.type) := by rw [← List.drop_drop, List.take_append_drop]
  refine ⟨ts :: xs, .cons t1 a1, ?_, ?_⟩
  ·rw [List.flatten_cons, e]; exact t2.append a2
  ·rw [e, List.all_append, t3, a3]; rfl

theorem array_ty {d fuel : Nat} {e : TypeId} (ih : ∀ {cs : List Value} {x : DataW H × List MemPlace}, DataW.trod enc P W 0 (fun _ => true) true fuel e cs = some x → ∃ ts, TyL P d e ts ∧ RelF W st Φ ts cs ∧ cs.all (inV W.heap.size) = true) :
  ∀ {n : Nat} {cs : List Value}, cs.length = n * P.cellsOf e → (∀ i, i < n → ∃ y, DataW.trod enc P W 0 (fun _ => true) true fuel e ((cs.drop (i * P.cellsOf e)).take (P.cellsOf e)) = some y) →
  ∃ xs : List (List TV), xs.length = n ∧ (∀ x ∈ xs, TyL P d e x) ∧ RelF W st Φ xs.flatten cs ∧ cs.all (inV W.heap.size) = true
 | 0, cs, hl, _ => by
  have : cs = [] := List.length_eq_zero_iff.1 (by simpa using hl)
  subst this
  exact ⟨[], rfl, by simp, RelF.nil, rfl⟩
 | n + 1, cs, hl, h => by
  obtain ⟨y, hy⟩ := h 0 (by omega)
  obtain ⟨ts, t1, t2, t3⟩ := ih hy
  obtain ⟨xs, a1, a2, a3, a4⟩ := array_ty ih (n := n) (cs := cs.drop (P.cellsOf e)) (by rw [List.length_drop, hl, Nat.add_mul]; omega) fun i hi => by
   obtain ⟨y, hy⟩ := h (i + 1) (by omega)
   rw [List.drop_drop, show P.cellsOf e + i * P.cellsOf e = (i + 1) * P.cellsOf e by rw [Nat.add_mul]; omega]
   exact ⟨y, hy⟩
  simp only [Nat.zero_mul, List.drop_zero] at t2 t3
  refine ⟨ts :: xs, by simp [a1], ?_, ?_, ?_⟩
  ·intro x hx
   rcases List.mem_cons.1 hx with rfl | hx
   ·exact t1
   ·exact a2 x hx
  ·have := t2.append a3
   rwa [List.take_append_drop] at this
  ·rw [← List.take_append_drop (P.cellsOf e) cs, List.all_append, t3, a4]; rfl

theorem wf_int {k : IntKind} {n : Int} (h : (Lit.int k n).wf = true) : k.min ≤ n ∧ n ≤ k.max := by simpa [Lit.wf] using h

theorem trod_ty : ∀ {d fuel : Nat} {t : TypeId} {cs : List Value} {x : DataW H × List MemPlace}, fitB P d t = true → DataW.trod enc P W 0 (fun _ => true) true fuel t cs = some x → ∃ ts, TyL P d t ts ∧ RelF W st Φ ts cs ∧ cs.all (inV W.heap.size) = true
 | 0, _, _, _, _, hf, _ => by cases hf
 | _ + 1, 0, _, _, _, _, h => by cases h
 | d + 1, fuel + 1, t, cs, x, hf, h => by
  rw [DataW.trod.eq_def] at h
  simp only [fitB] at hf
  simp only [TyL]
  cases hu : P.underlying t with
  | none => simp [hu] at hf
  | some u =>
   cases u with
   | bool =>
    simp only [hu] at h
    split at h
    any_goals (rename_i heq; cases heq; done)
    any_goals (cases h; done)
    exact ⟨_, ⟨_, rfl⟩, .one (.v _ rfl), rfl⟩
   | int k =>
    simp only [hu] at h
    split at h
    any_goals (rename_i heq; cases heq; done)
    any_goals (cases h; done)
    rename_i heq
    cases heq
    split at h
    ·rename_i hw
     obtain ⟨rfl, hw⟩ := hw
     exact ⟨_, ⟨_, rfl, wf_int hw⟩, .one (.v _ rfl), rfl⟩
    ·cases h
   | string =>
    simp only [hu] at h
    split at h
    any_goals (rename_i heq; cases heq; done)
    any_goals (cases h; done)
    split at h
    ·exact ⟨_, ⟨_, rfl, by assumption⟩, .one (.v _ rfl), rfl⟩
    ·cases h
   | slice e =>
    simp only [hu] at h hf
    simp only [Bool.and_eq_true, decide_eq_true_eq] at hf
    split at h
    any_goals (rename_i heq; cases heq; done)
    any_goals (cases h; done)
    ·exact ⟨[.lst (P.cellsOf e) []], ⟨[], rfl, by simp, by simp⟩, .one (.lst _ [] none 0 0 [] rfl (by omega) (by simp) (by simp) (by simp) (by simp) (by simp) (by simp)), rfl⟩
    ·rename_i a len cap heq
     cases heq
     split at h
     ·rename_i hc
      simp only [Option.bind_eq_some_iff] at h
      obtain ⟨elems, he, h⟩ := h
      simp only [if_true, Option.map_eq_some_iff] at h
      obtain ⟨rest, hr, _⟩ := h
      have hm : maxLen = 9223372036854775807 := rfl
      obtain ⟨xs, vs, h1, h2, h3, h4, h5, h6, h7⟩ := rows_ty (st := st) (Φ := Φ) (fun h => trod_ty hf.2 h) (a := a) hf.1 (len := len) fun i hi => by
       obtain ⟨y, hy⟩ := mapM_some he i (List.mem_range.2 hi)
       simp only [Option.bind_eq_some_iff] at hy
       obtain ⟨ys, h1, h2⟩ := hy
       exact ⟨ys, y, h1, h2⟩
      have hin : len = 0 ∨ (a.block < W.heap.size ∧ a.spot = none ∧ cellsAt W st a (len * P.cellsOf e) = some vs) := by
       rcases Nat.eq_zero_or_pos len with h | h
       ·exact .inl h
       ·obtain ⟨k1, k2, k3⟩ := cells_old (Nat.mul_pos h hf.1) h2 h7
        exact .inr ⟨k1, k2, k3 h6 st⟩
      have hcap : inV W.heap.size (.slice (some a) len cap) = true := by
       simp only [inV, Bool.or_eq_true, Bool.and_eq_true, decide_eq_true_eq]
       rcases Nat.eq_zero_or_pos cap with h | h
       ·exact .inr ⟨by omega, h⟩
       ·rcases hin with h0 | h0
        ·left
         subst h0
         obtain ⟨y, hy⟩ := mapM_some hr 0 (List.mem_range.2 (by omega))
         simp only [Option.bind_eq_some_iff] at hy
         obtain ⟨ys, h1, h2⟩ := hy
         obtain ⟨hl, hc⟩ := cells_some h1
         have := (cells_old hf.1 hl hc).1
         have e0 : (a.add ((0 + 0) * P.cellsOf e)).block = a.block := by simp [Addr.add]
         rwa [e0] at this
        ·exact .inl h0.1
      refine ⟨[.lst (P.cellsOf e) xs], ⟨xs, rfl, by omega, h4⟩, .one (.lst _ xs (some a) len cap vs h1.symm (by omega) (fun _ _ _ => hc.2.1) (fun h => by cases h) ?_ h3 ?_ fun j y z hy hz => h5.rel j y z hy hz), by simp [hcap]⟩
      ·intro a0 ha hne
       cases ha
       rcases hin with h | h
       ·exact absurd (List.length_eq_zero_iff.1 (by omega)) hne
       ·exact h.2.1
      ·intro hne
       rcases hin with h | ⟨h1, h2, h3⟩
       ·exact absurd (List.length_eq_zero_iff.1 (by omega)) hne
       ·obtain ⟨b, o, s⟩ := a
        simp only at h1 h2
        subst h2
        exact ⟨b, o, rfl, .inl h1, h3⟩
     ·cases h
   | struct fs =>
    simp only [hu] at h hf
    simp only [Bool.and_eq_true] at hf
    split at h
    ·rename_i hl
     simp only [Option.map_eq_some_iff] at h
     obtain ⟨xs, hxs, _⟩ := h
     obtain ⟨ys, h1, h2, h3⟩ := parts_ty (st := st) (Φ := Φ) (fun hf h => trod_ty hf h) (cs := cs) (o := 0) (by rw [hl]; exact hf.1) hf.2 (mapM_some hxs)
     exact ⟨ys.flatten, ⟨ys, rfl, h1⟩, h2, h3⟩
    ·cases h
   | array n e =>
    simp only [hu] at h hf
    simp only [Bool.and_eq_true, beq_iff_eq] at hf
    split at h
    ·rename_i hl
     simp only [Option.map_eq_some_iff] at h
     obtain ⟨xs, hxs, _⟩ := h
     obtain ⟨ys, h1, h2, h3, h4⟩ := array_ty (st := st) (Φ := Φ) (fun h => trod_ty hf.2 h) (by rw [hl]; exact hf.1) fun i hi => mapM_some hxs i (List.mem_range.2 hi)
     exact ⟨ys.flatten, ⟨ys, rfl, h1, h2⟩, h3, h4⟩
    ·cases h
   | _ => simp [hu] at hf

def TyV (P : Program) (d : Nat) (x : TV) (t : TypeId) : Prop := match P.underlying t with
 | some (.struct _) | some (.array _ _) => ∃ cs, x = .agg cs ∧ TyL P d t cs
 | _ => TyL P d t [x]

theorem vrel_inV {v : Value} (h : inV W.heap.size v = true) : VRel P W.heap.size (fun _ => none) v v := (inV_rel h).1

theorem arg_ty {d : Nat} {t : TypeId} {v : Value} {dd : DataW H} {ps : List MemPlace} (hf : fitB P d t = true) (hv : Value.okWide P W .any base t v) (h : DataW.Trod enc P W 0 (fun _ => true) true t v dd ps) :
  ∃ x, TyV P d x t ∧ FRel W st Φ x v ∧ VRel P W.heap.size (fun _ => none) v v := by
 obtain ⟨fuel, h⟩ := h
 obtain ⟨ts, h1, h2, h3⟩ := trod_ty (st := st) (Φ := Φ) hf h
 have agg : ∀ cs : Array Value, v = .agg cs → FRel W st Φ (.agg ts) v ∧ VRel P W.heap.size (fun _ => none) v v := by
  rintro cs rfl
  have hc : (Value.agg cs).cells.toList = cs.toList := rfl
  rw [hc] at h2 h3
  refine ⟨.agg _ _ (by simpa using h2.len) fun i x y hx hy => h2.rel i x y hx (by simpa using hy), .agg _ _ rfl (fun i x y hx hy => ?_) fun i x hx => ?_⟩
  ·rw [hx] at hy; cases hy
   exact vrel_inV (List.all_eq_true.1 h3 x (by have := Array.mem_of_getElem? hx; simpa using this))
  ·exact (inV_rel (P := P) (μ := fun _ => none) (List.all_eq_true.1 h3 x (by have := Array.mem_of_getElem? hx; simpa using this))).2
 have one : v.cells.toList = [v] → ∃ x, ts = [x] ∧ FRel W st Φ x v ∧ VRel P W.heap.size (fun _ => none) v v := by
  intro hc
  rw [hc] at h2 h3
  have hl := h2.len
  match ts, hl with
  | [x], _ => exact ⟨x, rfl, h2.rel 0 x v rfl rfl, vrel_inV (by simpa using h3)⟩
 cases d with
 | zero => cases hf
 | succ d =>
  simp only [fitB] at hf
  unfold TyV
  simp only [Value.okWide] at hv
  cases hu : P.underlying t with
  | none => simp [hu] at hf
  | some u =>
   cases u with
   | struct fs =>
    simp only [hu] at hv
    obtain ⟨cs, e, _⟩ := hv
    obtain ⟨k1, k2⟩ := agg cs e
    exact ⟨_, ⟨_, rfl, h1⟩, k1, k2⟩
   | array n e =>
    simp only [hu] at hv
    obtain ⟨cs, e, _⟩ := hv
    obtain ⟨k1, k2⟩ := agg cs e
    exact ⟨_, ⟨_, rfl, h1⟩, k1, k2⟩
   | bool =>
    simp only [hu, Cell.okWide, Cell.ok] at hv
    obtain ⟨x, rfl, k1, k2⟩ := one (by cases v <;> simp_all <;> rfl)
    exact ⟨x, h1, k1, k2⟩
   | int k =>
    simp only [hu, Cell.okWide, Cell.ok] at hv
    obtain ⟨x, rfl, k1, k2⟩ := one (by cases v <;> simp_all <;> rfl)
    exact ⟨x, h1, k1, k2⟩
   | string =>
    simp only [hu, Cell.okWide, Cell.ok] at hv
    obtain ⟨x, rfl, k1, k2⟩ := one (by cases v <;> simp_all <;> rfl)
    exact ⟨x, h1, k1, k2⟩
   | slice e =>
    simp only [hu, Cell.okWide, Cell.ok] at hv
    obtain ⟨x, rfl, k1, k2⟩ := one (by cases v <;> simp_all <;> rfl)
    exact ⟨x, h1, k1, k2⟩
   | _ => simp [hu] at hf

theorem args_ty {d : Nat} : ∀ {ts : List TypeId} {vs : List Value} {ds : List (DataW H)} {ps : List MemPlace}, (ts.all (fitB P d)) = true → (∀ (j : Nat) t v, ts[j]? = some t → vs[j]? = some v → Value.okWide P W .any base t v) →
  DataW.TrodAll enc P W 0 (fun _ => true) true ts vs ds ps → ∃ xs, All2 (TyV P d) xs ts ∧ RelF W st Φ xs vs ∧ (∀ v ∈ vs, VRel P W.heap.size (fun _ => none) v v) ∧ ds.length = ts.length
 | [], [], [], _, _, _, _ => ⟨[], .nil, RelF.nil, by simp, rfl⟩
 | t :: ts, v :: vs, d0 :: ds, ps, hf, hv, h => by
  obtain ⟨p, q, h1, h2, rfl⟩ := h
  simp only [List.all_cons, Bool.and_eq_true] at hf
  obtain ⟨x, a1, a2, a3⟩ := arg_ty (st := st) (Φ := Φ) hf.1 (hv 0 t v rfl rfl) h1
  obtain ⟨xs, b1, b2, b3, b4⟩ := args_ty hf.2 (fun j t v ht hv' => hv (j + 1) t v ht hv') h2
  refine ⟨x :: xs, .cons a1 b1, (RelF.one a2).append b2, ?_, by simp [b4]⟩
  intro u hu
  rcases List.mem_cons.1 hu with rfl | hu
  ·exact a3
  ·exact b3 u hu
 | [], _ :: _, _, _, _, _, h => h.elim
 | [], [], _ :: _, _, _, _, h => h.elim
 | _ :: _, [], _, _, _, _, h => h.elim
 | _ :: _, _ :: _, [], _, _, _, h => h.elim

theorem ty_str {d : Nat} {t : TypeId} {x : TV} (h : TyV P d x t) (ht : P.underlying t = some .string) : ∃ s : ByteArray, x = .v (.string s) ∧ s.size ≤ maxLen := by
 unfold TyV at h
 cases d with
 | zero => simp [ht, TyL] at h
 | succ d =>
  simp only [ht, TyL] at h
  obtain ⟨s, h, hs⟩ := h
  exact ⟨s, by simpa using h, hs⟩
theorem ty_bool {d : Nat} {t : TypeId} {x : TV} (h : TyV P d x t) (ht : P.underlying t = some .bool) : ∃ b : Bool, x = .v (.bool b) := by
 unfold TyV at h
 cases d with
 | zero => simp [ht, TyL] at h
 | succ d =>
  simp only [ht, TyL] at h
  obtain ⟨s, h⟩ := h
  exact ⟨s, by simpa using h⟩
theorem ty_int {d : Nat} {t : TypeId} {x : TV} {k : IntKind} (h : TyV P d x t) (ht : P.underlying t = some (.int k)) : ∃ n : Int, x = .v (.int k n) ∧ k.min ≤ n ∧ n ≤ k.max := by
 unfold TyV at h
 cases d with
 | zero => simp [ht, TyL] at h
 | succ d =>
  simp only [ht, TyL] at h
  obtain ⟨s, h, hs⟩ := h
  exact ⟨s, by simpa using h, hs⟩

theorem law_run {f : FuncId} {fn : Func} {s : ChangeSpec} {apart fresh handsOn : Bool} {G : World → Prop} {args : Array Value} {ds gs : List (DataW H)} {before : List MemPlace} {tb : TypeId} {base : Nat} (d : Nat)
  (hl : laidOutB P = true) (hfit : (fn.params.toList.all fun t => fitB P d t && P.readableRec t && decide (t < P.types.size)) = true) (hrt : fn.resultTypes = #[tb]) (htb : P.underlying tb = some .bool) (hs : s.vars = [])
  (hfn : ∀ ds : List (DataW H), ds.length = fn.params.toList.length → s.fn H (ds ++ []) = { results := [.lit (.bool true)], args := ds })
  (hval : ∀ (j : Nat) t v, fn.params[j]? = some t → args[j]? = some v → Value.okWide P W .any base t v)
  (hW : DataW.Whole enc P fn.params.toList s.vars apart W args.toList ds gs before) (hG : G W)
  (hlaw : ∀ xs, All2 (TyV P d) xs fn.params.toList → Pure P G f xs (.v (.bool true))) :
  Calls P f args W fun e W' => ∃ v, e = .returned v ∧ s.post enc P fn apart fresh handsOn false W args v W' := by
 have hW' := hW
 obtain ⟨p, q, hA, hV, rfl, _, _⟩ := hW
 simp only [List.all_eq_true, Bool.and_eq_true, decide_eq_true_eq] at hfit
 obtain ⟨xs, h1, h2, h3, h4⟩ := args_ty (st := st0 W) (Φ := fun _ => False) (d := d) (List.all_eq_true.2 fun t ht => (hfit t ht).1.1) (fun j t v ht hv => hval j t v (by simpa using ht) (by simpa using hv)) hA
 refine (law_pure (hlaw xs h1) hG h2 h3).mono ?_
 rintro e W' ⟨rfl, hb⟩
 exact ⟨_, rfl, law_post hl (fun t ht => ⟨(hfit t ht).1.2, (hfit t ht).2⟩) hrt htb hs (hfn ds h4) hW' hb⟩
end
end Go.Proofs.YtnphhelbianjpaaGreatDoor.V
namespace Go.Proofs.YtnphhelbianjpaaGreatDoor.V
open Go Go.RowKit

section
variable {P : Program} {w0 : World} {env : TEnv} {σ : TS}

theorem tl_sadd {t : TypeId} {x y : Operand} {a b : ByteArray} (hx : tO env x = some (.v (.string a))) (hy : tO env y = some (.v (.string b))) (hb : a.size + b.size ≤ 9223372036854775807) :
  TL P w0 env σ (.bin .add t x y) (.v (.string (a ++ b))) := by
 intro venv st Φ ν _ he
 obtain ⟨_, h1, h2⟩ := tO_sound he hx
 obtain ⟨rfl, _⟩ := h2.v_inv
 obtain ⟨_, h3, h4⟩ := tO_sound he hy
 obtain ⟨rfl, _⟩ := h4.v_inv
 refine ⟨_, ?_, .f _ _ (.v _ rfl)⟩
 have hlt : ¬ (((a.size + b.size : Nat) : Int) > IntKind.i64.max) := by
  have : IntKind.i64.max = 9223372036854775807 := by decide
  rw [this]; omega
 have := bin_eq P t x y .add (.string a) (.string b) (.string (a ++ b)) (guard_str ..) (by simp only [binOp, Op.stringOp, if_neg hlt]; rfl) rfl
 simp only [LOp.eval, h1, h3]
 simpa [flatV, atom] using this
end
end Go.Proofs.YtnphhelbianjpaaGreatDoor.V
namespace Go.Proofs.YtnphhelbianjpaaGreatDoor.V
open Go Go.RowKit

def findK (str : Bool) (k : Value) : List (Value × TV) → Nat → Option (Option (Nat × TV))
 | [], _ => some none
 | e :: es, i => match keyCmp str k e.1 with
  | some true => some (some (i, e.2))
  | some false => findK str k es (i + 1)
  | none => none
def putK (str : Bool) (k : Value) (x : TV) (es : List (Value × TV)) : Option (List (Value × TV)) := match findK str k es 0 with
 | some (some (i, _)) => some (es.set i (k, x))
 | some none => some (es ++ [(k, x)])
 | none => none

theorem findK_rel {R : TV → Value → Prop} {str : Bool} {k : Value} : ∀ {es : List (Value × TV)} {vs : List (Value × Value)} {i : Nat}, es.length = vs.length →
  (∀ (j : Nat) (k' : Value) (x : TV), es[j]? = some (k', x) → ∃ y, vs[j]? = some (k', y) ∧ R x y) →
  (findK str k es i = some none → findD str k vs i = some none) ∧ (∀ j x, findK str k es i = some (some (j, x)) → ∃ y, findD str k vs i = some (some (j, y)) ∧ R x y ∧ i ≤ j ∧ j < i + es.length)
 | [], [], i, _, _ => ⟨fun _ => rfl, fun j x h => (by cases h)⟩
 | (ke, xe) :: es, (kv, ve) :: vs, i, hl, hr => by
  obtain ⟨y, h1, h2⟩ := hr 0 ke xe rfl
  simp only [List.getElem?_cons_zero, Option.some.injEq, Prod.mk.injEq] at h1
  obtain ⟨rfl, rfl⟩ := h1
  obtain ⟨i1, i2⟩ := findK_rel (R := R) (str := str) (k := k) (es := es) (vs := vs) (i := i + 1) (by simpa using hl) fun j k' x hj => by
   have := hr (j + 1) k' x (by simpa using hj)
   simpa using this
  simp only [findK, findD]
  cases keyCmp str k kv with
  | none => exact ⟨fun h => (by cases h), fun j x h => (by cases h)⟩
  | some b =>
   cases b with
   | true =>
    refine ⟨fun h => (by cases h), fun j x h => ?_⟩
    simp only [Option.some.injEq, Prod.mk.injEq] at h
    obtain ⟨rfl, rfl⟩ := h
    exact ⟨_, rfl, h2, Nat.le_refl _, by simp⟩
   | false =>
    refine ⟨i1, fun j x h => ?_⟩
    obtain ⟨y, e1, e2, e3, e4⟩ := i2 j x h
    exact ⟨y, e1, e2, by omega, by simp only [List.length_cons]; omega⟩
 | [], _ :: _, _, hl, _ => by simp at hl
 | _ :: _, [], _, hl, _ => by simp at hl

theorem beq_bytes (a b : ByteArray) : (a == b) = decide (a = b) := by
 cases a with
 | mk a =>
  cases b with
  | mk b =>
   show (a == b) = _
   rw [Bool.eq_iff_iff]; simp
def findS {α : Type} (s : ByteArray) : List (ByteArray × α) → Nat → Option (Nat × α)
 | [], _ => none
 | e :: es, i => if s = e.1 then some (i, e.2) else findS s es (i + 1)
theorem findK_str {α : Type} (s : ByteArray) (g : α → TV) : ∀ (l : List (ByteArray × α)) (i : Nat), findK true (.string s) (l.map fun e => (.string e.1, g e.2)) i = some ((findS s l i).map fun r => (r.1, g r.2))
 | [], _ => rfl
 | e :: es, i => by
  simp only [List.map_cons, findK, keyCmp, if_true, findS]
  rw [beq_bytes]
  by_cases h : s = e.1
  ·rw [if_pos h, dT h]; rfl
  ·rw [if_neg h, dF h]
   exact findK_str s g es (i + 1)

section
variable {C : Cx} {K : TK} {env : TEnv} {σ : TS} {rest : List ROp} {d : Option Nat} {q : Bool} {ks : List LOp}

theorem tr_mapset {str : Bool} {m ko x : Operand} {k : Nat} {kv : Value} {xv : TV} {es es' : List (Value × TV)} (hm : tO env m = some (.m k)) (hk : σ.get k = some (.map es)) (hko : tO env ko = some (.v kv)) (ha : atom kv = true) (hx : tO env x = some xv)
  (hp : putK str kv xv es = some es') (hks : keepAllT env σ k 0 0 ks = true) (h : TwR C rest K (putT d tundef env) (σ.set k (.map es'))) : TwR C (⟨d, none, .heavy (.mapset str m ko x), q, ks⟩ :: rest) K env σ := by
 intro venv st Φ ν hr
 refine ⟨fun _ => ?_, fun h => by simp at h⟩
 obtain ⟨_, h1, h2⟩ := tO_sound hr.env hm
 obtain ⟨b, hb, rfl⟩ := h2.m_inv
 obtain ⟨kv', h3, h4⟩ := tO_sound hr.env hko
 obtain ⟨ek, _⟩ := h4.v_inv
 rw [ek] at h3
 obtain ⟨vx, h5, h6⟩ := tO_sound hr.env hx
 rcases hr.sim.has hk with ⟨_, _, _, q2⟩ | ⟨b', bk, q1, q2, q3⟩
 ·cases q2
 ·rw [hb] at q1; cases q1
  cases bk with
  | map vs =>
   obtain ⟨q4, q5⟩ := q3
   obtain ⟨f1, f2⟩ := findK_rel (R := TRel C.w0 st Φ ν) (str := str) (k := kv) (i := 0) q4 q5
   obtain ⟨vs', hf, hc⟩ : ∃ vs', (match findD str kv vs 0 with | some (some (i, _)) => some (undef, st.set b (.map (vs.set i (kv, vx)))) | some none => some (undef, st.set b (.map (vs ++ [(kv, vx)]))) | none => none) = some (undef, st.set b (.map vs')) ∧ CRel C.w0 st Φ ν (.map es') (.map vs') := by
    unfold putK at hp
    split at hp
    ·rename_i i x' hfi
     cases hp
     obtain ⟨y, e1, e2, _, e4⟩ := f2 i x' hfi
     rw [e1]
     refine ⟨_, rfl, by simp [q4], fun j k' x1 hj => ?_⟩
     rw [List.getElem?_set] at hj
     rw [List.getElem?_set]
     split at hj
     ·rename_i hij
      subst hij
      rw [if_pos (by omega)] at hj
      cases hj
      exact ⟨vx, by rw [if_pos rfl, if_pos (by omega)], h6⟩
     ·rename_i hij
      rw [if_neg hij]
      exact q5 j k' x1 hj
    ·rename_i hfi
     cases hp
     rw [f1 hfi]
     refine ⟨_, rfl, by simp [q4], fun j k' x1 hj => ?_⟩
     rcases Nat.lt_or_ge j es.length with hlt | hge
     ·rw [List.getElem?_append_left hlt] at hj
      rw [List.getElem?_append_left (by omega)]
      exact q5 j k' x1 hj
     ·rw [List.getElem?_append_right hge] at hj
      rw [List.getElem?_append_right (by omega), ← q4]
      cases hz : j - es.length with
      | zero => rw [hz] at hj; cases hj; exact ⟨vx, rfl, h6⟩
      | succ n => rw [hz] at hj; simp at hj
    ·cases hp
   have he : (HOp.mapset str m ko x).eval C.w0 venv st = some (undef, st.set b (.map vs')) := by
    simp only [HOp.eval, h1, h3, h5, q2, ha, if_true]
    exact hf
   simp only [COp.step, he]
   refine ⟨keepAll_sound hr.sim hr.env (.inl (by rw [hk]; rfl)) (fun c _ hc => set_ne _ _ (fun e => hc (e ▸ hb))) (fun b o n hcs => by obtain ⟨_, _, hcs⟩ := hcs; rw [hk] at hcs; cases hcs) hks, ?_⟩
   exact h _ _ _ _ (RelT.putO (hr.set hk hb hc) rel_undef d)
  | _ => exact q3.elim
end

def lookR (ok : Bool) (zero : Value) : Option (Nat × TV) → TV
 | some (_, x) => bif ok then .tup [x, .v (.bool true)] else x
 | none => bif ok then .tup [toTV zero, .v (.bool false)] else toTV zero

section
variable {P : Program} {w0 : World} {env : TEnv} {σ : TS}

theorem lookR_rel {st : St} {Φ : Nat → Prop} {ν : Nu} {ok : Bool} {zero : Value} (hz : flatV zero = true) {k : Value} {str : Bool} {es : List (Value × TV)} {vs : List (Value × Value)} {r : Option (Nat × TV)} (hl : es.length = vs.length)
  (hr : ∀ (j : Nat) (k' : Value) (x : TV), es[j]? = some (k', x) → ∃ y, vs[j]? = some (k', y) ∧ TRel w0 st Φ ν x y) (hf : findK str k es 0 = some r) :
  ∃ v, (match findD str k vs 0 with | some (some (_, v)) => some (if ok then .tuple #[v, .bool true] else v) | some none => some (if ok then .tuple #[zero, .bool false] else zero) | none => none) = some v ∧ TRel w0 st Φ ν (lookR ok zero r) v := by
 obtain ⟨f1, f2⟩ := findK_rel (R := TRel w0 st Φ ν) (str := str) (k := k) (i := 0) hl hr
 cases r with
 | none =>
  rw [f1 hf]
  refine ⟨_, rfl, ?_⟩
  have hzr : TRel w0 st Φ ν (toTV zero) zero := .f _ _ (FRel.flat hz)
  cases ok with
  | false => exact hzr
  | true => exact TRel.tup_of (.cons hzr (.one (.f _ _ (.v _ rfl))))
 | some p =>
  obtain ⟨j, x⟩ := p
  obtain ⟨y, e1, e2, _⟩ := f2 j x hf
  rw [e1]
  refine ⟨_, rfl, ?_⟩
  cases ok with
  | false => exact e2
  | true => exact TRel.tup_of (.cons e2 (.one (.f _ _ (.v _ rfl))))

theorem tl_lookF {str ok : Bool} {zero : Value} {m ko : Operand} {es : List (Value × TV)} {kv : Value} {r : Option (Nat × TV)} (hm : tO env m = some (.fm es)) (hko : tO env ko = some (.v kv)) (hz : flatV zero = true) (hf : findK str kv es 0 = some r) :
  TL P w0 env σ (.look str zero ok m ko) (lookR ok zero r) := by
 intro venv st Φ ν hs he
 obtain ⟨_, h1, h2⟩ := tO_sound he hm
 obtain ⟨kv', h3, h4⟩ := tO_sound he hko
 obtain ⟨ek, _⟩ := h4.v_inv
 rw [ek] at h3
 cases h2 with
 | f _ _ h2 =>
  cases h2 with
  | fm _ b vs hb hbl hl hk hv =>
   obtain ⟨v, e1, e2⟩ := lookR_rel (w0 := w0) (st := st) (Φ := Φ) (ν := ν) (ok := ok) hz hl (fun j k' x hj => by
    obtain ⟨k2, y, e, rfl⟩ := hk j k' x hj
    exact ⟨y, e, .f _ _ (hv j k2 k2 x y hj e)⟩) hf
   refine ⟨v, ?_, e2⟩
   simp only [LOp.eval, h1, h3, hbl]
   exact e1
theorem tl_lookM {str ok : Bool} {zero : Value} {m ko : Operand} {k : Nat} {es : List (Value × TV)} {kv : Value} {r : Option (Nat × TV)} (hm : tO env m = some (.m k)) (hk : σ.get k = some (.map es)) (hko : tO env ko = some (.v kv)) (hz : flatV zero = true) (hf : findK str kv es 0 = some r) :
  TL P w0 env σ (.look str zero ok m ko) (lookR ok zero r) := by
 intro venv st Φ ν hs he
 obtain ⟨_, h1, h2⟩ := tO_sound he hm
 obtain ⟨b, hb, rfl⟩ := h2.m_inv
 obtain ⟨kv', h3, h4⟩ := tO_sound he hko
 obtain ⟨ek, _⟩ := h4.v_inv
 rw [ek] at h3
 rcases hs.has hk with ⟨_, _, _, q2⟩ | ⟨b', bk, q1, q2, q3⟩
 ·cases q2
 ·rw [hb] at q1; cases q1
  cases bk with
  | map vs =>
   obtain ⟨v, e1, e2⟩ := lookR_rel (w0 := w0) (st := st) (Φ := Φ) (ν := ν) (ok := ok) hz q3.1 q3.2 hf
   refine ⟨v, ?_, e2⟩
   simp only [LOp.eval, h1, h3, q2]
   exact e1
  | _ => exact q3.elim
end

def frozAll : List TV → Bool
 | [] => true
 | x :: r => bif frozV x then frozAll r else false
theorem frozAll_mem : ∀ {l : List TV}, frozAll l = true → ∀ x ∈ l, frozV x = true
 | [], _, x, hx => by cases hx
 | y :: r, h, x, hx => by
  simp only [frozAll] at h
  cases hy : frozV y with
  | false => simp [hy] at h
  | true =>
   simp only [hy, cond_true] at h
   rcases List.mem_cons.1 hx with rfl | hx
   ·exact hy
   ·exact frozAll_mem h x hx
theorem cA {C : Cx} {K : TK} {env : TEnv} {σ : TS} {rest : List ROp} {d : Option Nat} {q : Bool} {ks : List LOp} {f : FuncId} {args : List Operand} {l : List TV} {r : TV} (ha : targs env args = some l) (hp : Pure C.P C.G f l r) (hf : frozAll l = true)
  (h : TwR C rest K (putT d r env) σ) : TwR C (⟨d, none, .call (.fn f) args, q, ks⟩ :: rest) K env σ := tr_call ha hp (.inr (frozAll_mem hf)) h
end Go.Proofs.YtnphhelbianjpaaGreatDoor.V
namespace Go.Proofs.YtnphhelbianjpaaGreatDoor.V
open Go Go.RowKit
section
variable {P : Program} {w0 : World} {env : TEnv} {σ : TS}
theorem tl_asrt_no {ty u : TypeId} {zero : Value} {x : Operand} {a : TV} (hx : tO env x = some (.ifc u a)) (hne : Nat.beq u ty = false) (hz : flatV zero = true) :
  TL P w0 env σ (.asrt ty zero x) (.tup [toTV zero, .v (.bool false)]) := by
 refine tev_sound ?_
 simp only [tev, hx, hne, cond_false, hz, cond_true]
end
theorem th_norm {K : TK} {Q : Exit → TK} {env : TEnv} {σ : TS} (h : K env σ) : thenT K Q .normal env σ := h
theorem bs0 : (∀ (p : Prop) [Decidable p], (decide p = true) = p) ∧ (∀ (p : Prop) [Decidable p], (decide p = false) = ¬ p) ∧ (∀ b : Bool, ((!b) = true) = (b = false)) ∧ (∀ b : Bool, ((!b) = false) = (b = true)) ∧ ((!true) = false) ∧ ((!false) = true) ∧ (∀ b : Bool, (!(!b)) = b) ∧ (∀ b : Bool, (¬ b = true) = (b = false)) ∧ (∀ b : Bool, (¬ b = false) = (b = true)) :=
 ⟨fun p _ => by simp, fun p _ => by simp, fun b => by simp, fun b => by simp, rfl, rfl, fun b => by simp, fun b => by simp, fun b => by simp⟩
end Go.Proofs.YtnphhelbianjpaaGreatDoor.V
