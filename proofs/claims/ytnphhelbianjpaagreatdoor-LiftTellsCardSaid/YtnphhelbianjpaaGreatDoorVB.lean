/-
  The abstract semantics V: operations that write.
-/
import Derived.Test.YtnphhelbianjpaaGreatDoorVA
set_option linter.all false
set_option linter.unusedSimpArgs false
set_option linter.unusedVariables false
set_option linter.unnecessarySimpa false
namespace Go.Proofs.YtnphhelbianjpaaGreatDoor.V
open Go Go.RowKit

inductive AOp where
 | cells (cs : List Value) (ty : TypeId)
 | box (n : Nat) (ty : TypeId) (x : Operand)
 | row (ty : TypeId) (sz len : Nat) (zero : List Value) (parts : List (Nat × Operand))
 | make (ty : TypeId) (sz bytes : Nat) (zero : List Value) (l c : Operand)
 | mkmap
 | iter (x : Operand)

def ptrTo (b : Nat) : Value := .pointer (some ⟨b, 0, none⟩)

def zeros (n : Nat) (zs : List Value) : List Value := (List.replicate n zs).flatten

def AOp.eval (env : Env) : AOp → Option (Blk × (Nat → Value))
 | .cells cs ty => some (.cells cs ty, ptrTo)
 | .box n ty x => match (evalO env x).bind cellsQ with
  | some cs => if cs.length = n then some (.cells cs ty, ptrTo) else none
  | none => none
 | .row ty sz len zero parts => match evalParts env parts with
  | some l => (fillL ((List.range len).map fun i => (i * sz, sz)) zero l).map fun cs => (.cells cs ty, fun b => .slice (some ⟨b, 0, none⟩) len sz)
  | none => none
 | .make ty sz bytes zero l c => match evalO env l, evalO env c with
  | some (.int .i64 n), some (.int .i64 m) =>
   if 0 ≤ n ∧ n = m ∧ n * bytes ≤ 140737488355328 ∧ n < 9223372036854775808 then some (.cells (zeros n.toNat zero) ty, fun b => .slice (some ⟨b, 0, none⟩) n.toNat sz) else none
  | _, _ => none
 | .mkmap => some (.map [], fun b => .map (some b))
 | .iter x => match evalO env x with
  | some (.string s) => some (.iter s 0, ptrTo)
  | _ => none

section
variable (P : Program) (w0 : World)

def copA : Op → Option AOp
 | .alloc e => match zeroOf P e with
  | some z => (match cellsQ z with | some cs => if cs.all atom then some (.cells cs e) else none | none => none)
  | none => none
 | .box e x => (P.info? e).map fun i => .box i.size e x
 | .buildSlice t len parts => match P.underlying t with
  | some (.slice e) => (match P.info? e, zeroOf P e with
   | some i, some z => (match cellsQ z with
    | some zs => if zs.all atom ∧ zs.length = i.size ∧ 0 < i.size ∧ len * i.size ≤ 16777216 then some (.row e i.size len (zeros len zs) parts.toList) else none
    | none => none)
   | _, _ => none)
  | _ => none
 | .makeSlice t l c => match P.underlying t with
  | some (.slice e) => (match P.info? e, zeroOf P e with
   | some i, some z => (match cellsQ z with
    | some zs => if zs.all atom ∧ zs.length = i.size ∧ 0 < i.size then some (.make e i.size i.bytes zs l c) else none
    | none => none)
   | _, _ => none)
  | _ => none
 | .makeMap _ none => some .mkmap
 | .range t x => match P.underlying t with
  | some .string => some (.iter x)
  | _ => none
 | _ => none

def ObjRel (n0 : Nat) (μ : Mp) : Blk → Obj → Prop
 | .cells cs ty, .cells arr ty' fr => ty' = ty ∧ fr = (0, 0) ∧ RelC P n0 μ cs arr.toList
 | .map es, .map arr _ => es = [] ∧ arr = #[]
 | .iter s pos, .stringIter s' pos' => s' = s ∧ pos' = pos
 | _, _ => False

def locOf (B : Nat) : Obj → Loc
 | .cells arr ty _ => ⟨B, 0, arr.size, ty⟩
 | _ => ⟨B, 0, 0, 0⟩

variable {P w0}

def upd (μ : Mp) (b : Nat) (l : Loc) : Mp := fun i => if i = b then some l else μ i

theorem upd_self (μ : Mp) (b : Nat) (l : Loc) : upd μ b l b = some l := by simp [upd]
theorem upd_other (μ : Mp) {b i : Nat} (l : Loc) (h : i ≠ b) : upd μ b l i = μ i := by simp [upd, h]
theorem Ext.upd {μ : Mp} {b : Nat} (h : μ b = none) (l : Loc) : Ext μ (upd μ b l) := by
 intro i m hm
 by_cases e : i = b
 ·subst e; rw [h] at hm; cases hm
 ·rw [upd_other _ _ e]; exact hm

theorem heap_push (w : World) (o : Obj) (i : Nat) : (w.alloc o).heap[i]? = if i = w.heap.size then some o else w.heap[i]? := by
 simp only [World.alloc, Array.getElem?_push]

theorem Sim.birth {μ : Mp} {st : St} {w : World} (h : Sim P w0 μ st w) {b : Nat} {bk : Blk} {o : Obj} (hb : st.blk b = some bk) (hm : μ b = none) (hn : b < st.next)
  (ho : ObjRel P w0.heap.size μ bk o) : Sim P w0 (upd μ b (locOf w.heap.size o)) st (w.alloc o) := by
 have hext := Ext.upd hm (locOf w.heap.size o)
 have hb0 : w0.heap.size ≤ b := by
  rcases Nat.lt_or_ge b w0.heap.size with hlt | hge
  ·rw [h.hi b hlt] at hb; cases hb
  ·exact hge
 have hw0 : w0.heap.size ≤ w.heap.size := h.old.size
 have hlb : (locOf w.heap.size o).blk = w.heap.size := by cases o <;> rfl
 refine ⟨h.old.alloc hw0 o, h.next, ?_, ?_, h.hi, ?_, ?_, ?_, ?_⟩
 ·intro i hi
  rw [upd_other _ _ (by omega)]
  exact h.fresh i hi
 ·intro i m hi
  by_cases e : i = b
  ·subst e
   rw [upd_self] at hi; cases hi
   rw [hlb]
   exact ⟨hb0, hw0, Nat.lt_of_lt_of_eq (Nat.lt_succ_self _) (World.size_alloc ..).symm⟩
  ·rw [upd_other _ _ e] at hi
   have := h.lo i m hi
   exact ⟨this.1, this.2.1, Nat.lt_of_lt_of_eq (Nat.lt_succ_of_lt this.2.2) (World.size_alloc ..).symm⟩
 ·intro i cs ty m hi hmi
  by_cases e : i = b
  ·subst e
   rw [upd_self] at hmi; cases hmi
   rw [hb] at hi; cases hi
   cases o with
   | cells arr ty' fr =>
    obtain ⟨rfl, rfl, hrel⟩ := ho
    refine ⟨rfl, arr, ?_, rfl, ?_, ?_, hrel.one⟩
    ·rw [heap_push]; simp [locOf]
    ·have := hrel.len; simp [locOf] at this ⊢; omega
    ·intro j v hj
     have hlt : j < arr.toList.length := by rw [← hrel.len]; exact (List.getElem?_eq_some_iff.1 hj).1
     refine ⟨arr.toList[j], ?_, ?_⟩
     ·simp [locOf] at hlt ⊢; try simp [hlt]
     ·exact (hrel.rel j v _ hj (by simp [hlt])).ext hext
   | _ => exact ho.elim
  ·rw [upd_other _ _ e] at hmi
   obtain ⟨h1, arr, h2, h3, h4, h5, h6⟩ := h.cells i cs ty m hi hmi
   refine ⟨h1, arr, ?_, h3, h4, ?_, h6⟩
   ·rw [heap_push, if_neg (by have := (h.lo i m hmi).2.2; omega)]; exact h2
   ·intro j v hj
    obtain ⟨v', k1, k2⟩ := h5 j v hj
    exact ⟨v', k1, k2.ext hext⟩
 ·intro i es m hi hmi
  by_cases e : i = b
  ·subst e
   rw [upd_self] at hmi; cases hmi
   rw [hb] at hi; cases hi
   cases o with
   | map arr clock =>
    obtain ⟨rfl, rfl⟩ := ho
    exact ⟨#[], clock, by rw [heap_push]; simp [locOf], rfl, by simp⟩
   | _ => exact ho.elim
  ·rw [upd_other _ _ e] at hmi
   obtain ⟨arr, clock, h2, h3, h4⟩ := h.maps i es m hi hmi
   refine ⟨arr, clock, ?_, h3, ?_⟩
   ·rw [heap_push, if_neg (by have := (h.lo i m hmi).2.2; omega)]; exact h2
   ·intro j k v hj
    obtain ⟨q1, e, q2, q3, q4⟩ := h4 j k v hj
    exact ⟨q1, e, q2, q3, q4.ext hext⟩
 ·intro i s pos m hi hmi
  by_cases e : i = b
  ·subst e
   rw [upd_self] at hmi; cases hmi
   rw [hb] at hi; cases hi
   cases o with
   | stringIter s' pos' =>
    obtain ⟨rfl, rfl⟩ := ho
    exact ⟨rfl, by rw [heap_push]; simp [locOf]⟩
   | _ => exact ho.elim
  ·rw [upd_other _ _ e] at hmi
   obtain ⟨h1, h2⟩ := h.iters i s pos m hi hmi
   exact ⟨h1, by rw [heap_push, if_neg (by have := (h.lo i m hmi).2.2; omega)]; exact h2⟩
 ·intro i i' m m' hi hi' hmi hmi' hbb
  by_cases e : i = b <;> by_cases e' : i' = b
  ·omega
  ·subst e
   rw [upd_self] at hmi; cases hmi
   rw [upd_other _ _ e'] at hmi'
   have := (h.lo i' m' hmi').2.2
   omega
  ·subst e'
   rw [upd_self] at hmi'; cases hmi'
   rw [upd_other _ _ e] at hmi
   have := (h.lo i m hmi).2.2
   omega
  ·rw [upd_other _ _ e] at hmi
   rw [upd_other _ _ e'] at hmi'
   exact h.inj i i' m m' hi hi' hmi hmi' hbb

theorem Sim.ahead {μ : Mp} {st : St} {w : World} (h : Sim P w0 μ st w) (bk : Blk) : Sim P w0 μ (st.alloc bk) w := by
 have hn := (h.fresh st.next (Nat.le_refl _)).1
 have ne : ∀ i m, μ i = some m → i ≠ st.next := by
  intro i m hi e; subst e; rw [hn] at hi; cases hi
 have nx := h.next
 refine ⟨h.old, Nat.le_succ_of_le h.next, ?_, h.lo, ?_, ?_, ?_, ?_, ?_⟩
 ·intro i hi
  have hi' : st.next + 1 ≤ i := hi
  have := h.fresh i (by omega)
  exact ⟨this.1, by simp only [St.alloc]; rw [if_neg (by omega)]; exact this.2⟩
 ·intro i hi
  simp only [St.alloc]; rw [if_neg (by omega)]; exact h.hi i hi
 ·intro i cs ty m hi hm
  simp only [St.alloc, if_neg (ne i m hm)] at hi
  exact h.cells i cs ty m hi hm
 ·intro i es m hi hm
  simp only [St.alloc, if_neg (ne i m hm)] at hi
  exact h.maps i es m hi hm
 ·intro i s pos m hi hm
  simp only [St.alloc, if_neg (ne i m hm)] at hi
  exact h.iters i s pos m hi hm
 ·intro i i' m m' hi hi' hm hm' hb
  simp only [St.alloc, if_neg (ne i m hm)] at hi
  simp only [St.alloc, if_neg (ne i' m' hm')] at hi'
  exact h.inj i i' m m' hi hi' hm hm' hb

theorem range_zeros (zs : List Value) (n : Nat) : (Array.range (n * zs.length)).map (fun i => zs.toArray[i % zs.toArray.size]!) = (zeros n zs).toArray := by
 apply Array.ext'
 simp only [Array.toList_map, Array.toList_range]
 induction n with
 | zero => simp [zeros]
 | succ n ih =>
  rw [Nat.add_mul, Nat.one_mul, List.range_add, List.map_append, ih]
  simp only [zeros, List.replicate_succ', List.flatten_append, List.flatten_cons, List.flatten_nil, List.append_nil, List.map_map]
  congr 1
  apply List.ext_getElem?
  intro j
  simp only [List.getElem?_map, List.getElem?_range, Function.comp]
  by_cases hj : j < zs.length
  ·rw [List.getElem?_range hj, List.getElem?_eq_getElem hj]
   simp only [Option.map_some, List.size_toArray]
   have hm : (n * zs.length + j) % zs.length = j := by rw [Nat.mul_comm, Nat.mul_add_mod, Nat.mod_eq_of_lt hj]
   simp [hm, hj]
  ·rw [List.getElem?_eq_none (by simpa using hj), List.getElem?_eq_none (by simpa using hj)]
   rfl

theorem relC_atoms {n0 : Nat} {μ : Mp} {cs : List Value} (h : cs.all V.atom = true) : RelC P n0 μ cs cs := by
 have := relC_flat (P := P) (n0 := n0) (μ := μ) (z := .agg cs.toArray) (by simp only [flatV]; simpa using h) (by simp)
 exact this

theorem zeros_atoms {zs : List Value} (h : zs.all V.atom = true) (n : Nat) : (zeros n zs).all V.atom = true := by
 induction n with
 | zero => rfl
 | succ n ih => simpa [zeros, List.replicate_succ, h] using ih

theorem zeros_length (n : Nat) (zs : List Value) : (zeros n zs).length = n * zs.length := by
 induction n with
 | zero => simp [zeros]
 | succ n ih => simp [zeros, List.replicate_succ] at ih ⊢; rw [Nat.add_mul]; omega

theorem fill_congr (g : Nat → Option (Nat × Nat)) (tab : List (Nat × Nat)) (h : ∀ i x, tab[i]? = some x → g i = some x) : ∀ (l : List (Nat × Value)) (cs r : Array Value),
  Instr.fill (tab[·]?) cs l = some r → Instr.fill g cs l = some r := by
 intro l
 induction l with
 | nil => intro cs r hr; exact hr
 | cons x l ih =>
  intro cs r hr
  obtain ⟨i, v⟩ := x
  simp only [Instr.fill] at hr ⊢
  cases ht : tab[i]? with
  | none => simp [ht] at hr
  | some q =>
   obtain ⟨off, size⟩ := q
   simp only [ht] at hr
   simp only [h i _ ht]
   split at hr
   ·cases hr
   ·rename_i hc
    rw [if_neg hc]
    exact ih _ _ hr

theorem fillL_length (tab : List (Nat × Nat)) : ∀ (l : List (Nat × List Value)) (cs r : List Value), fillL tab cs l = some r → r.length = cs.length := by
 intro l
 induction l with
 | nil => intro cs r h; cases h; rfl
 | cons x l ih =>
  intro cs r h
  obtain ⟨i, v⟩ := x
  simp only [fillL] at h
  split at h
  ·cases h
  ·split at h
   ·rename_i hc
    rw [ih _ _ h]
    simp; omega
   ·cases h

theorem cellsQ_of {z : Value} {cs : List Value} (h : cellsQ z = some cs) : z.cells.toList = cs := by
 cases z <;> first | (cases h; rfl) | cases h

theorem cellsQ_flat {z : Value} {cs : List Value} (h : cellsQ z = some cs) (ha : cs.all V.atom = true) : z.cells = cs.toArray := by
 apply Array.ext'; simpa using cellsQ_of h

theorem slice_new {μ : Mp} {b B n sz size : Nat} {ty : TypeId} (hm : μ b = some ⟨B, 0, size, ty⟩) (h1 : sz = P.cellsOf ty) (h2 : n * sz ≤ size) :
  VRel P w0.heap.size μ (.slice (some ⟨b, 0, none⟩) n sz) (.slice (some ⟨B, 0, none⟩) n n) := by
 have := VRel.slice (P := P) (n0 := w0.heap.size) (μ := μ) b 0 n sz n _ hm (Nat.le_refl _) (fun _ => ⟨h1, by simpa using h2⟩)
 simpa using this

theorem info_cells {e : TypeId} {i : TypeInfo} (h : P.info? e = some i) : P.cellsOf e = i.size := by simp [Program.cellsOf, h]

theorem alloc_sound {o : Oper} {A : AOp} (hc : copA P o.op = some A) {env : Env} {bk : Blk} {mk : Nat → Value} (he : A.eval env = some (bk, mk))
  {μ : Mp} {w : World} {a : Act} (hr : ∀ x ∈ o.op.operands.toList, ∀ u, evalO env x = some u → VRel P w0.heap.size μ u (a.eval x)) :
  ∃ obj v', (execOp a.eval o).run P w = .ok (.value v') (w.alloc obj) ∧ ObjRel P w0.heap.size μ bk obj ∧
   ∀ (μ' : Mp) (b : Nat), μ' b = some (locOf w.heap.size obj) → VRel P w0.heap.size μ' (mk b) v' := by
 obtain ⟨dst, op, type, pos, after, guard⟩ := o
 simp only at hc hr
 have val : ∀ (s : Sem Value) (v' : Value) (w' : World), s.run P w = .ok v' w' → (do pure (Next.value (← s)) : Sem Next).run P w = .ok (.value v') w' := by
  intro s v' w' h; simp [h]
 have ptr : ∀ (obj : Obj) (μ' : Mp) (b : Nat), (locOf w.heap.size obj).base = 0 → μ' b = some (locOf w.heap.size obj) → VRel P w0.heap.size μ' (ptrTo b) (.pointer (some ⟨w.heap.size, 0, none⟩)) := by
  intro obj μ' b h0 hb
  have := VRel.ptr (P := P) (n0 := w0.heap.size) b 0 _ hb
  have e : (locOf w.heap.size obj).blk = w.heap.size := by cases obj <;> rfl
  rw [h0, e] at this
  exact this
 cases op with
 | alloc e =>
  simp only [copA] at hc
  cases hz : zeroOf P e with
  | none => simp [hz] at hc
  | some z =>
   simp only [hz] at hc
   cases hq : cellsQ z with
   | none => simp [hq] at hc
   | some cs =>
    simp only [hq] at hc
    split at hc
    ·rename_i hall
     cases hc
     cases he
     refine ⟨.cells cs.toArray e, _, ?_, ⟨rfl, rfl, relC_atoms hall⟩, fun μ' b hb => ptr _ μ' b rfl hb⟩
     simp only [execOp]
     refine val _ _ _ ?_
     simp only [Instr.alloc, Sem.run_bind, run_zero hz, Result.andThen_ok, newVar, newRow, cellsQ_flat hq hall, run_newObj, Sem.run_pure]
     rfl
    ·cases hc
 | box e x =>
  simp only [copA] at hc
  cases hi : P.info? e with
  | none => simp [hi] at hc
  | some i =>
   simp only [hi, Option.map_some, Option.some.injEq] at hc
   subst hc
   simp only [AOp.eval] at he
   split at he
   ·rename_i cs hcs
    split at he
    ·rename_i hlen
     cases he
     cases h1 : evalO env x with
     | none => simp [h1] at hcs
     | some u =>
      simp only [h1, Option.bind_some] at hcs
      have hrel := cellsQ_rel (hr x (by simp [Op.operands]) _ h1) hcs
      refine ⟨.cells (a.eval x).cells e, _, ?_, ⟨rfl, rfl, hrel⟩, fun μ' b hb => ptr _ μ' b rfl hb⟩
      simp only [execOp]
      refine val _ _ _ ?_
      simp only [Instr.box, newVar, newRow, Sem.run_bind, run_newObj, Result.andThen_ok, Sem.run_pure]
      rfl
    ·cases he
   ·cases he
 | buildSlice t len parts =>
  simp only [copA] at hc
  split at hc
  ·rename_i e hu
   split at hc
   ·rename_i i z hi hz
    split at hc
    ·rename_i zs hzs
     split at hc
     ·rename_i hcond
      obtain ⟨hall, hzl, hpos, hsmall⟩ := hcond
      cases hc
      simp only [AOp.eval] at he
      split at he
      ·rename_i pl hpl
       cases hfl : fillL ((List.range len).map fun k => (k * i.size, i.size)) (zeros len zs) pl with
       | none => simp [hfl] at he
       | some cs =>
        simp only [hfl, Option.map_some, Option.some.injEq, Prod.mk.injEq] at he
        obtain ⟨rfl, rfl⟩ := he
        obtain ⟨p1, p2⟩ := evalParts_rel (P := P) (w0 := w0) (μ := μ) (a := a) parts.toList pl (fun p hp => hr p.2 (by
          simp only [Op.operands, List.mem_map]
          exact ⟨p, hp, rfl⟩)) hpl
        obtain ⟨r', hr', hrel⟩ := fill_rel (P := P) (n0 := w0.heap.size) (μ := μ) _ pl _ (zeros len zs) (zeros len zs) p1 p2 (relC_atoms (zeros_atoms hall len)) cs hfl
        have hfill := fill_congr (fun k => some (k * i.size, i.size)) _ (by
         intro k x hk
         rw [List.getElem?_map] at hk
         cases hkk : (List.range len)[k]? with
         | none => simp [hkk] at hk
         | some k' =>
          have : k' = k := by
           have := List.getElem?_eq_some_iff.1 hkk
           obtain ⟨_, h⟩ := this; simpa using h.symm
          subst this
          simpa [hkk] using hk) _ _ _ hr'
        refine ⟨.cells r'.toArray e, .slice (some ⟨w.heap.size, 0, none⟩) len len, ?_, ⟨rfl, rfl, hrel⟩, ?_⟩
        ·simp only [execOp]
         refine val _ _ _ ?_
         have hzc : z.cells = zs.toArray := cellsQ_flat hzs hall
         have hzero : ∀ K : Array Value → Sem Value, (if len * i.size = 0 then (do let z ← pure #[]; K z) else (do let zz ← zeroValue e; let z ← pure zz.cells; K z) : Sem Value).run P w = (K (if len * i.size = 0 then #[] else zs.toArray)).run P w := by
          intro K
          split
          ·rfl
          ·simp only [Sem.run_bind, run_zero hz, Result.andThen_ok, Sem.run_pure, hzc]
         have hin : (Array.range (len * i.size)).map (fun k => (if len * i.size = 0 then (#[] : Array Value) else zs.toArray)[k % (if len * i.size = 0 then (#[] : Array Value) else zs.toArray).size]!) = (zeros len zs).toArray := by
          by_cases h0 : len * i.size = 0
          ·have : len = 0 := by
            rcases Nat.mul_eq_zero.1 h0 with h | h
            ·exact h
            ·omega
           subst this
           simp [zeros]
          ·rw [if_neg h0, ← hzl]
           exact range_zeros zs len
         simp only [Instr.buildSlice, Sem.run_bind, run_underlying hu, Result.andThen_ok, run_size hi]
         rw [if_neg (by omega)]
         refine (hzero _).trans ?_
         simp only [hin]
         have hp' : (parts.map fun p => (p.1, a.eval p.2)).toList = parts.toList.map fun p => (p.1, a.eval p.2) := by simp
         rw [hp', hfill]
         simp only [newRow, Sem.run_bind, run_newObj, Result.andThen_ok, Sem.run_pure]
         rfl
        ·intro μ' b hb
         refine slice_new hb (info_cells hi).symm ?_
         have h1 := fillL_length _ _ _ _ hfl
         rw [zeros_length, hzl] at h1
         have h2 := hrel.len
         simp only [List.size_toArray]
         omega
      ·cases he
     ·cases hc
    ·cases hc
   ·cases hc
  ·cases hc
 | makeSlice t l c =>
  simp only [copA] at hc
  split at hc
  ·rename_i e hu
   split at hc
   ·rename_i i z hi hz
    split at hc
    ·rename_i zs hzs
     split at hc
     ·rename_i hcond
      obtain ⟨hall, hzl, hpos⟩ := hcond
      cases hc
      simp only [AOp.eval] at he
      split at he
      ·rename_i n m h1 h2
       split at he
       ·rename_i hb
        obtain ⟨h0, rfl, hby, hlt⟩ := hb
        cases he
        have e1 := (hr l (by simp [Op.operands]) _ h1).int_eq
        have e2 := (hr c (by simp [Op.operands]) _ h2).int_eq
        refine ⟨.cells (zeros n.toNat zs).toArray e, .slice (some ⟨w.heap.size, 0, none⟩) n.toNat n.toNat, ?_, ⟨rfl, rfl, relC_atoms (zeros_atoms hall _)⟩, ?_⟩
        ·simp only [execOp, e1, e2]
         refine val _ _ _ ?_
         have hw : IntKind.i64.wrap n = n := IntWalk.i64_in _ (by omega)
         have hby' : (i.bytes : Int) * n ≤ 140737488355328 := by rw [Int.mul_comm]; exact hby
         have hlarge : (decide (n < 0) || decide ((i.bytes : Int) * n > 2 ^ 48)) = false := by
          simp; omega
         have hzc : z.cells = zs.toArray := cellsQ_flat hzs hall
         have hzero : ∀ K : Array Value → Sem Value, (if n.toNat * i.size = 0 then K #[] else (do let zz ← zeroValue e; K zz.cells) : Sem Value).run P w = (K (if n.toNat * i.size = 0 then #[] else zs.toArray)).run P w := by
          intro K
          split
          ·rfl
          ·simp only [Sem.run_bind, run_zero hz, Result.andThen_ok, Sem.run_pure, hzc]
         have hin : (Array.range (n.toNat * i.size)).map (fun k => (if n.toNat * i.size = 0 then (#[] : Array Value) else zs.toArray)[k % (if n.toNat * i.size = 0 then (#[] : Array Value) else zs.toArray).size]!) = (zeros n.toNat zs).toArray := by
          by_cases h0 : n.toNat * i.size = 0
          ·have : n.toNat = 0 := by
            rcases Nat.mul_eq_zero.1 h0 with h | h
            ·exact h
            ·omega
           rw [this]
           simp [zeros]
          ·rw [if_neg h0, ← hzl]
           exact range_zeros zs _
         have hcond : (((decide (n < 0) || decide ((i.bytes : Int) * n > 2 ^ 48)) || decide (n < 0)) || decide (n > n)) = false := by
          rw [hlarge]; simp; omega
         simp only [Instr.makeSlice, Sem.run_bind, run_underlying hu, Result.andThen_ok, asInt, asIntOf, pure_bind, Sem.run_pure, run_info hi, hw]
         simp only [hcond, Bool.false_eq_true, if_false, Sem.run_bind, run_askRoom, Result.andThen_ok, run_size hi]
         refine (hzero (fun z => do let ad ← newRow e (Array.map (fun x => z[x % z.size]!) (Array.range (n.toNat * i.size))); pure (Value.slice (some ad) n.toNat n.toNat))).trans ?_
         simp only [hin, newRow, Sem.run_bind, run_newObj, Sem.run_pure]
         rfl
        ·intro μ' b hb
         refine slice_new hb (info_cells hi).symm ?_
         simp [zeros_length, hzl]
       ·cases he
      ·cases he
     ·cases hc
    ·cases hc
   ·cases hc
  ·cases hc
 | makeMap t r =>
  cases r with
  | some _ => simp [copA] at hc
  | none =>
   simp only [copA, Option.some.injEq] at hc
   subst hc
   simp only [AOp.eval, Option.some.injEq, Prod.mk.injEq] at he
   obtain ⟨rfl, rfl⟩ := he
   refine ⟨.map #[] 0, .map (some w.heap.size), ?_, ⟨rfl, rfl⟩, ?_⟩
   ·simp only [execOp]
    refine val _ _ _ ?_
    simp only [Instr.makeMap, Option.map_none, Sem.run_bind, run_newObj, Result.andThen_ok, Sem.run_pure]
    rfl
   ·intro μ' b hb
    exact .map b _ hb
 | range t x =>
  simp only [copA] at hc
  split at hc
  ·rename_i hu
   cases hc
   simp only [AOp.eval] at he
   split at he
   ·rename_i s h1
    cases he
    have e1 : a.eval x = .string s := (hr x (by simp [Op.operands]) _ h1).atom_eq rfl
    refine ⟨.stringIter s 0, _, ?_, ⟨rfl, rfl⟩, fun μ' b hb => ptr _ μ' b rfl hb⟩
    simp only [execOp, e1]
    refine val _ _ _ ?_
    simp only [Instr.range, Sem.run_bind, run_underlying hu, Result.andThen_ok, Sem.run_pure, run_newObj]
    rfl
   ·cases he
  ·cases hc
 | _ => simp [copA] at hc

end
end Go.Proofs.YtnphhelbianjpaaGreatDoor.V
namespace Go.Proofs.YtnphhelbianjpaaGreatDoor.V
open Go Go.RowKit

section
variable (P : Program) (n0 : Nat)
def BlkAt (μ : Mp) (m : Loc) : Blk → Obj → Prop
 | .cells cs ty, .cells arr ty' fr => m.ty = ty ∧ ty' = ty ∧ fr = (0, 0) ∧ arr.size = m.size ∧ m.base + cs.length ≤ m.size ∧
   (∀ (i : Nat) (v : Value), cs[i]? = some v → ∃ v', arr[m.base + i]? = some v' ∧ VRel P n0 μ v v') ∧ ∀ v ∈ cs, v.oneCell' = true
 | .map es, .map arr _ => arr.size = es.length ∧ ∀ (i : Nat) (k v : Value), es[i]? = some (k, v) → atom k = true ∧ ∃ e : MapEntry, arr[i]? = some e ∧ e.key = k ∧ VRel P n0 μ v e.val
 | .iter s pos, .stringIter s' pos' => m.base = 0 ∧ s' = s ∧ pos' = pos
 | _, _ => False
end

section
variable {P : Program} {w0 : World}

theorem BlkAt.ext {μ μ' : Mp} (he : Ext μ μ') {m : Loc} {bk : Blk} {o : Obj} (h : BlkAt P w0.heap.size μ m bk o) : BlkAt P w0.heap.size μ' m bk o := by
 cases bk <;> cases o <;> try (exact h.elim)
 ·obtain ⟨h1, h2, h3, h4, h5, h6, h7⟩ := h
  exact ⟨h1, h2, h3, h4, h5, fun i v hi => let ⟨v', a, b⟩ := h6 i v hi; ⟨v', a, b.ext he⟩, h7⟩
 ·obtain ⟨h1, h2⟩ := h
  exact ⟨h1, fun i k v hi => let ⟨a, e, b, c, d⟩ := h2 i k v hi; ⟨a, e, b, c, d.ext he⟩⟩
 ·exact h

theorem Sim.at {μ : Mp} {st : St} {w : World} (h : Sim P w0 μ st w) {b : Nat} {bk : Blk} {m : Loc} (hb : st.blk b = some bk) (hm : μ b = some m) :
  ∃ o, w.heap[m.blk]? = some o ∧ BlkAt P w0.heap.size μ m bk o := by
 cases bk with
 | cells cs ty =>
  obtain ⟨h1, arr, h2, h3, h4, h5, h6⟩ := h.cells b cs ty m hb hm
  exact ⟨_, h2, h1, rfl, rfl, h3, h4, h5, h6⟩
 | map es =>
  obtain ⟨arr, clock, h2, h3, h4⟩ := h.maps b es m hb hm
  exact ⟨_, h2, h3, h4⟩
 | iter s pos =>
  obtain ⟨h1, h2⟩ := h.iters b s pos m hb hm
  exact ⟨_, h2, h1, rfl, rfl⟩

theorem Sim.of {μ : Mp} {st : St} {w : World} (old : Below w0.heap.size w0 w) (next : w0.heap.size ≤ st.next) (fresh : ∀ b, st.next ≤ b → μ b = none ∧ st.blk b = none)
  (lo : ∀ b m, μ b = some m → w0.heap.size ≤ b ∧ w0.heap.size ≤ m.blk ∧ m.blk < w.heap.size) (hi : ∀ b, b < w0.heap.size → st.blk b = none)
  (at' : ∀ b bk m, st.blk b = some bk → μ b = some m → ∃ o, w.heap[m.blk]? = some o ∧ BlkAt P w0.heap.size μ m bk o)
  (inj : ∀ b b' m m', (st.blk b).isSome = true → (st.blk b').isSome = true → μ b = some m → μ b' = some m' → m.blk = m'.blk → b = b') : Sim P w0 μ st w := by
 refine ⟨old, next, fresh, lo, hi, ?_, ?_, ?_, inj⟩
 ·intro b cs ty m hb hm
  obtain ⟨o, h1, h2⟩ := at' b _ m hb hm
  cases o <;> try (exact h2.elim)
  obtain ⟨k1, rfl, rfl, k4, k5, k6, k7⟩ := h2
  exact ⟨k1, _, h1, k4, k5, k6, k7⟩
 ·intro b es m hb hm
  obtain ⟨o, h1, h2⟩ := at' b _ m hb hm
  cases o <;> try (exact h2.elim)
  exact ⟨_, _, h1, h2.1, h2.2⟩
 ·intro b s pos m hb hm
  obtain ⟨o, h1, h2⟩ := at' b _ m hb hm
  cases o <;> try (exact h2.elim)
  obtain ⟨k1, rfl, rfl⟩ := h2
  exact ⟨k1, h1⟩

theorem Sim.put {μ : Mp} {st : St} {w w' : World} (h : Sim P w0 μ st w) {b : Nat} {m : Loc} (hm : μ b = some m) (hb : (st.blk b).isSome = true) {bk : Blk} {o : Obj}
  (ho : BlkAt P w0.heap.size μ m bk o) (hsz : w'.heap.size = w.heap.size) (hh : ∀ i, w'.heap[i]? = if i = m.blk then some o else w.heap[i]?)
  (hos : w'.os = w.os) (htape : w'.tape = w.tape) (hout : w'.output = w.output) : Sim P w0 μ (st.set b bk) w' := by
 have hlo := h.lo b m hm
 refine Sim.of ⟨hos.trans h.old.os, htape.trans h.old.tape, hout.trans h.old.output, by rw [hsz]; exact h.old.size, ?_⟩ h.next ?_ ?_ ?_ ?_ ?_
 ·intro k hk
  rw [hh, if_neg (by omega)]
  exact h.old.block k hk
 ·intro i hi
  have := h.fresh i hi
  refine ⟨this.1, ?_⟩
  have : i ≠ b := by intro e; subst e; rw [hm] at this; cases this.1
  simp only [St.set, if_neg this]
  exact (h.fresh i hi).2
 ·intro i mi hi
  rw [hsz]; exact h.lo i mi hi
 ·intro i hi
  have : i ≠ b := by omega
  simp only [St.set, if_neg this]
  exact h.hi i hi
 ·intro i bk' mi hi hmi
  by_cases e : i = b
  ·subst e
   simp only [St.set, if_true] at hi
   cases hi
   rw [hm] at hmi; cases hmi
   exact ⟨o, by rw [hh, if_pos rfl], ho⟩
  ·simp only [St.set, if_neg e] at hi
   obtain ⟨o', h1, h2⟩ := h.at hi hmi
   refine ⟨o', ?_, h2⟩
   rw [hh, if_neg]
   ·exact h1
   ·intro e'
    exact e (h.inj i b mi m (by rw [hi]; rfl) hb hmi hm e')
 ·intro i i' mi mi' hi hi' hmi hmi' e
  have g : ∀ j, ((st.set b bk).blk j).isSome = true → (st.blk j).isSome = true := by
   intro j hj
   by_cases e : j = b
   ·subst e; exact hb
   ·simpa only [St.set, if_neg e] using hj
  exact h.inj i i' mi mi' (g i hi) (g i' hi') hmi hmi' e

theorem Sim.kill {μ : Mp} {st : St} {w : World} (h : Sim P w0 μ st w) (b : Nat) : Sim P w0 μ (st.kill b) w := by
 have g : ∀ i bk, (st.kill b).blk i = some bk → st.blk i = some bk := by
  intro i bk hi
  simp only [St.kill] at hi
  split at hi
  ·cases hi
  ·exact hi
 have g' : ∀ i, ((st.kill b).blk i).isSome = true → (st.blk i).isSome = true := by
  intro i hi
  obtain ⟨x, hx⟩ := Option.isSome_iff_exists.1 hi
  rw [g i x hx]; rfl
 refine Sim.of h.old h.next ?_ h.lo ?_ (fun i bk m hi hm => h.at (g i bk hi) hm) (fun i i' m m' hi hi' => h.inj i i' m m' (g' i hi) (g' i' hi'))
 ·intro i hi
  refine ⟨(h.fresh i hi).1, ?_⟩
  simp only [St.kill]; split
  ·rfl
  ·exact (h.fresh i hi).2
 ·intro i hi
  simp only [St.kill]; split
  ·rfl
  ·exact h.hi i hi

theorem Sim.drew {μ : Mp} {st : St} {w : World} (h : Sim P w0 μ st w) : Sim P w0 μ st w.drew :=
 Sim.of h.old.drew h.next h.fresh h.lo h.hi (fun _ _ _ hb hm => h.at hb hm) h.inj

theorem Sim.new {μ : Mp} {st : St} {w : World} (h : Sim P w0 μ st w) {bk : Blk} {o : Obj} {m : Loc} (hh : w.heap[m.blk]? = some o) (h0 : w0.heap.size ≤ m.blk)
  (ho : BlkAt P w0.heap.size μ m bk o) (hfree : ∀ b m', (st.blk b).isSome = true → μ b = some m' → m'.blk ≠ m.blk) : Sim P w0 (upd μ st.next m) (st.alloc bk) w := by
 have hn := (h.fresh st.next (Nat.le_refl _)).1
 have hext := Ext.upd hn m
 have hlt : m.blk < w.heap.size := (Array.getElem?_eq_some_iff.1 hh).1
 refine Sim.of h.old (Nat.le_succ_of_le h.next) ?_ ?_ ?_ ?_ ?_
 ·intro i hi
  have hi' : st.next + 1 ≤ i := hi
  have := h.fresh i (by omega)
  rw [upd_other _ _ (by omega)]
  exact ⟨this.1, by simp only [St.alloc]; rw [if_neg (by omega)]; exact this.2⟩
 ·intro i mi hi
  by_cases e : i = st.next
  ·subst e
   rw [upd_self] at hi; cases hi
   exact ⟨h.next, h0, hlt⟩
  ·rw [upd_other _ _ e] at hi
   exact h.lo i mi hi
 ·intro i hi
  have := h.next
  simp only [St.alloc]; rw [if_neg (by omega)]; exact h.hi i hi
 ·intro i bk' mi hi hmi
  by_cases e : i = st.next
  ·subst e
   rw [upd_self] at hmi; cases hmi
   simp only [St.alloc, if_true] at hi; cases hi
   exact ⟨o, hh, ho.ext hext⟩
  ·rw [upd_other _ _ e] at hmi
   simp only [St.alloc, if_neg e] at hi
   obtain ⟨o', h1, h2⟩ := h.at hi hmi
   exact ⟨o', h1, h2.ext hext⟩
 ·intro i i' mi mi' hi hi' hmi hmi' hb
  by_cases e : i = st.next <;> by_cases e' : i' = st.next
  ·omega
  ·subst e
   rw [upd_self] at hmi; cases hmi
   rw [upd_other _ _ e'] at hmi'
   simp only [St.alloc, if_neg e'] at hi'
   exact absurd hb.symm (hfree i' mi' hi' hmi')
  ·subst e'
   rw [upd_self] at hmi'; cases hmi'
   rw [upd_other _ _ e] at hmi
   simp only [St.alloc, if_neg e] at hi
   exact absurd hb (hfree i mi hi hmi)
  ·rw [upd_other _ _ e] at hmi
   rw [upd_other _ _ e'] at hmi'
   simp only [St.alloc, if_neg e] at hi
   simp only [St.alloc, if_neg e'] at hi'
   exact h.inj i i' mi mi' hi hi' hmi hmi' hb

theorem heap_setRow (w : World) (g : Nat) (cs cur : Array Value) (ty : TypeId) (fr : Nat × Nat) (hg : w.heap[g]? = some (.cells cur ty fr)) (i : Nat) :
  (w.setRow g cs).heap[i]? = if i = g then some (.cells cs ty fr) else w.heap[i]? := by
 simp only [World.setRow, Array.getElem?_modify]
 by_cases e : i = g
 ·subst e; simp [hg]
 ·rw [if_neg e, if_neg (fun h => e h.symm)]

theorem blkAt_write {μ : Mp} {m : Loc} {cs : List Value} {ty : TypeId} {arr : Array Value} (h : BlkAt P w0.heap.size μ m (.cells cs ty) (.cells arr ty (0, 0))) {off : Nat} {vs vs' : List Value}
  (hv : RelC P w0.heap.size μ vs vs') (hle : off + vs.length ≤ cs.length) :
  BlkAt P w0.heap.size μ m (.cells (cs.take off ++ vs ++ cs.drop (off + vs.length)) ty)
   (.cells (arr.toList.take (m.base + off) ++ vs' ++ arr.toList.drop (m.base + off + vs'.length)).toArray ty (0, 0)) := by
 obtain ⟨h1, _, _, h4, h5, h6, h7⟩ := h
 have hl := hv.len
 refine ⟨h1, rfl, rfl, ?_, ?_, ?_, ?_⟩
 ·simp; omega
 ·simp; omega
 ·intro i v hi
  simp only [List.getElem?_toArray]
  rw [List.getElem?_append, List.getElem?_append] at hi
  rw [List.getElem?_append, List.getElem?_append]
  simp only [lA, List.length_take, Array.length_toList] at hi ⊢
  rw [show min off cs.length = off by omega] at hi
  rw [show min (m.base + off) arr.size = m.base + off by omega]
  by_cases c1 : i < off
  ·rw [if_pos (by omega), if_pos c1, List.getElem?_take, if_pos c1] at hi
   rw [if_pos (by omega), if_pos (by omega), List.getElem?_take, if_pos (by omega)]
   obtain ⟨v', k1, k2⟩ := h6 i v hi
   exact ⟨v', by simpa using k1, k2⟩
  ·by_cases c2 : i < off + vs.length
   ·rw [if_pos c2, if_neg c1] at hi
    rw [if_pos (by omega), if_neg (by omega)]
    have : m.base + i - (m.base + off) = i - off := by omega
    rw [this]
    have hlt : i - off < vs'.length := by omega
    exact ⟨vs'[i - off], by simp [hlt], hv.rel _ _ _ hi (by simp [hlt])⟩
   ·rw [if_neg c2, List.getElem?_drop] at hi
    rw [if_neg (by omega), List.getElem?_drop]
    obtain ⟨v', k1, k2⟩ := h6 _ v hi
    refine ⟨v', ?_, k2⟩
    rw [show m.base + off + vs'.length + (m.base + i - (m.base + off + vs'.length)) = m.base + (off + vs.length + (i - (off + vs.length))) by omega]
    simpa using k1
 ·intro v hv'
  rcases List.mem_append.1 hv' with hv' | hv'
  ·rcases List.mem_append.1 hv' with hv' | hv'
   ·exact h7 v (List.mem_of_mem_take hv')
   ·exact hv.one v hv'
  ·exact h7 v (List.mem_of_mem_drop hv')

end
end Go.Proofs.YtnphhelbianjpaaGreatDoor.V
namespace Go.Proofs.YtnphhelbianjpaaGreatDoor.V
open Go Go.RowKit

inductive HOp where
 | store (n : Nat) (x v : Operand)
 | append (ty : TypeId) (sz bytes : Nat) (s x : Operand)
 | appendZ (ty : TypeId) (sz bytes : Nat) (zero : List Value) (s n : Operand)
 | copy (sz : Nat) (d s : Operand)
 | mapset (str : Bool) (m k v : Operand)
 | next (x : Operand)

def appendV (n0 : Nat) (st : St) (ty : TypeId) (sz bytes : Nat) (s : Value) (m : Nat) (new : List Value) : Option (Value × St) :=
 match s with
 | .slice none n c =>
  if n = 0 ∧ c = 0 ∧ m * bytes ≤ 140737488355328 ∧ m < 9223372036854775807 then
   if m = 0 then some (s, st) else some (.slice (some ⟨st.next, 0, none⟩) m sz, st.alloc (.cells new ty))
  else none
 | .slice (some a) n c =>
  if a.block < n0 then none else
  if c = sz ∧ a.spot = none ∧ (n + m) * bytes ≤ 140737488355328 ∧ n + m < 9223372036854775807 then
   if m = 0 then some (s, st) else
   match st.blk a.block with
   | some (.cells cs ty') =>
    if ty' = ty ∧ a.off + n * sz = cs.length then some (.slice (some ⟨st.next, 0, none⟩) (n + m) sz, (st.kill a.block).alloc (.cells (cs.drop a.off ++ new) ty)) else none
   | _ => none
  else none
 | _ => none

section
variable (P : Program) (w0 : World)

def newCells (st : St) (sz : Nat) : Value → Option (Nat × List Value)
 | .slice none n _ => if n = 0 then some (0, []) else none
 | .slice (some a) n _ => if n = 0 then some (0, []) else (cellsAt w0 st a (n * sz)).map fun cs => (n, cs)
 | _ => none

def HOp.eval (env : Env) (st : St) : HOp → Option (Value × St)
 | .store n x v => match evalO env x, (evalO env v).bind cellsQ with
  | some (.pointer (some a)), some vs =>
   if a.spot = none ∧ vs.length = n then
    match st.blk a.block with
    | some (.cells cs ty) => if a.off + n ≤ cs.length then some (undef, st.set a.block (.cells (cs.take a.off ++ vs ++ cs.drop (a.off + n)) ty)) else none
    | _ => none
   else none
  | _, _ => none
 | .append ty sz bytes s x => match evalO env s, evalO env x with
  | some s, some x => match newCells w0 st sz x with
   | some (m, new) => appendV w0.heap.size st ty sz bytes s m new
   | none => none
  | _, _ => none
 | .appendZ ty sz bytes zero s x => match evalO env s, evalO env x with
  | some s, some (.int .i64 m) => if 0 ≤ m ∧ m < 9223372036854775808 then appendV w0.heap.size st ty sz bytes s m.toNat (zeros m.toNat zero) else none
  | _, _ => none
 | .copy sz d s => match evalO env d, evalO env s with
  | some (.slice da dn _), some (.slice sa sn _) =>
   if min sn dn = 0 then some (.int .i64 0, st) else
   match da, sa with
   | some da, some sa => match st.blk da.block, cellsAt w0 st sa (min sn dn * sz) with
    | some (.cells cs ty), some vs => if da.spot = none ∧ da.off + min sn dn * sz ≤ cs.length then
      some (.int .i64 (min sn dn : Nat), st.set da.block (.cells (cs.take da.off ++ vs ++ cs.drop (da.off + min sn dn * sz)) ty)) else none
    | _, _ => none
   | _, _ => none
  | _, _ => none
 | .mapset str m k v => match evalO env m, evalO env k, evalO env v with
  | some (.map (some b)), some k, some v => match st.blk b with
   | some (.map es) =>
    if atom k = true then
     match findD str k es 0 with
     | some (some (i, _)) => some (undef, st.set b (.map (es.set i (k, v))))
     | some none => some (undef, st.set b (.map (es ++ [(k, v)])))
     | none => none
    else none
   | _ => none
  | _, _, _ => none
 | .next x => match evalO env x with
  | some (.pointer (some a)) => match st.blk a.block with
   | some (.iter s pos) =>
    if a.off = 0 ∧ a.spot = none then
     if pos < s.size then some (.tuple #[.bool true, .int .i64 pos, .int .i32 (Utf8.decode s pos).1], st.set a.block (.iter s (pos + (Utf8.decode s pos).2)))
     else some (.tuple #[.bool false], st)
    else none
   | _ => none
  | _ => none

def copH : Op → Option HOp
 | .store t x v => (P.info? t).map fun i => .store i.size x v
 | .call c => match c.callee, c.args.toList, c.argTypes.toList with
  | .builtin .append, [s, x], [t, u] => (match P.underlying t with
   | some (.slice e) => (match P.info? e, zeroOf P e with
    | some i, some z => (match cellsQ z with
     | some zs => if zs.all atom ∧ zs.length = i.size ∧ 0 < i.size then
       (match P.underlying u with
       | some (.slice _) => some (.append e i.size i.bytes s x)
       | some (.int _) => some (.appendZ e i.size i.bytes zs s x)
       | _ => none)
      else none
     | none => none)
    | _, _ => none)
   | _ => none)
  | .builtin .copy, [d, s], t :: _ => (match P.underlying t with
   | some (.slice e) => (P.info? e).map fun i => .copy i.size d s
   | _ => none)
  | _, _, _ => none
 | .mapUpdate t m k v | .insert t m k v => match P.underlying t with
  | some (.map kt _) => (match P.underlying kt with
   | some .string => some (.mapset true m k v)
   | some (.int _) => some (.mapset false m k v)
   | _ => none)
  | _ => none
 | .next x true => some (.next x)
 | _ => none

variable {P w0}

def HGoes (P : Program) (w0 : World) (μ : Mp) (st : St) (w : World) (s : Sem Next) (v : Value) (st' : St) : Prop :=
 ∃ r v' w' μ', s.run P w = .ok r w' ∧ (r = .value v' ∨ (r = .skip ∧ v' = undef)) ∧ VRel P w0.heap.size μ' v v' ∧ Sim P w0 μ' st' w' ∧ Ext μ μ' ∧ Keep μ st μ' st'

theorem Keep.set {μ : Mp} {st : St} {b : Nat} {m : Loc} (hm : μ b = some m) (bk : Blk) : Keep μ st μ (st.set b bk) :=
 ⟨Nat.le_refl _, fun i hi hn => ⟨hn, by
  have : i ≠ b := by intro e; subst e; rw [hm] at hn; cases hn
  simp [St.set, this]⟩⟩

theorem ptr_own {μ : Mp} {st : St} {w : World} (hs : Sim P w0 μ st w) {a : Addr} {v' : Value} (h : VRel P w0.heap.size μ (.pointer (some a)) v') {bk : Blk} (hb : st.blk a.block = some bk) :
  ∃ m, μ a.block = some m ∧ a.spot = none ∧ v' = .pointer (some ⟨m.blk, m.base + a.off, none⟩) := by
 rcases h.ptr_inv with ⟨_, hlt⟩ | h
 ·rw [hs.hi _ hlt] at hb; cases hb
 ·exact h

theorem store_sound {μ : Mp} {st : St} {w : World} (hs : Sim P w0 μ st w) {t : TypeId} {i : TypeInfo} (hi : P.info? t = some i) {a : Addr} {X V v : Value} (hx : VRel P w0.heap.size μ (.pointer (some a)) X)
  (hv : VRel P w0.heap.size μ v V) {vs cs : List Value} {ty : TypeId} (hq : cellsQ v = some vs) (hl : vs.length = i.size) (hb : st.blk a.block = some (.cells cs ty)) (hle : a.off + i.size ≤ cs.length) :
  HGoes P w0 μ st w (do Instr.storeAt t X V; pure .skip) undef (st.set a.block (.cells (cs.take a.off ++ vs ++ cs.drop (a.off + i.size)) ty)) := by
 obtain ⟨m, hm, hsp, rfl⟩ := ptr_own hs hx hb
 have hrel := cellsQ_rel hv hq
 obtain ⟨o, ho, hat⟩ := hs.at hb hm
 cases o <;> try (exact hat.elim)
 rename_i arr ty' fr
 have hat' := hat
 obtain ⟨h1, rfl, rfl, h4, h5, h6, h7⟩ := hat
 have hlen : V.cells.toList.length = i.size := by rw [← hrel.len, hl]
 have hrun := run_storeCells_at P m.blk (m.base + a.off) ty' V.cells.toList 0 arr w ho (by rw [hlen]; omega) hrel.one_of
 have hw := blkAt_write hat' hrel (off := a.off) (by rw [hl]; exact hle)
 rw [hl] at hw
 refine ⟨.skip, undef, w.setRow m.blk (arr.toList.take (m.base + a.off) ++ V.cells.toList ++ arr.toList.drop (m.base + a.off + V.cells.toList.length)).toArray, μ, ?_, .inr ⟨rfl, rfl⟩, VRel.undef, ?_, Ext.refl _, Keep.set hm _⟩
 ·simp only [Instr.storeAt, Instr.sureAddr, pure_bind, storeVar, Sem.run_bind, run_size hi, Result.andThen_ok]
  rw [if_neg (by simp at hlen ⊢; exact hlen)]
  rw [hrun]; rfl
 ·refine hs.put hm (by rw [hb]; rfl) hw (by simp) (fun j => ?_) rfl rfl rfl
  exact heap_setRow w m.blk _ arr ty' (0, 0) ho j

theorem newCells_sound {μ : Mp} {st : St} {w : World} (hs : Sim P w0 μ st w) {x X : Value} (hx : VRel P w0.heap.size μ x X) {sz m : Nat} {new : List Value} (hn : newCells w0 st sz x = some (m, new)) :
  ∃ xa xn xc new', X = .slice xa xn xc ∧ xn = m ∧ new.length = m * sz ∧ RelC P w0.heap.size μ new new' ∧
   (∀ w1 : World, (∀ a : Addr, w1.cell? a = w.cell? a) → (Builtin.firstCells sz m X).run P w1 = .ok new'.toArray w1) := by
 cases x with
 | slice xa n c =>
  cases xa with
  | none =>
   simp only [newCells] at hn
   split at hn
   ·rename_i h0
    subst h0
    simp only [Option.some.injEq, Prod.mk.injEq] at hn
    obtain ⟨rfl, rfl⟩ := hn
    have : X = .slice none 0 c := hx.atom_eq rfl
    subst this
    exact ⟨none, 0, c, [], rfl, rfl, by simp, ⟨rfl, by simp, by simp⟩, fun w1 _ => by simp [Builtin.firstCells]⟩
   ·cases hn
  | some a =>
   simp only [newCells] at hn
   obtain ⟨a', c', rfl, hp⟩ := slice_inv hx
   split at hn
   ·rename_i h0
    subst h0
    simp only [Option.some.injEq, Prod.mk.injEq] at hn
    obtain ⟨rfl, rfl⟩ := hn
    exact ⟨some a', 0, c', [], rfl, rfl, by simp, ⟨rfl, by simp, by simp⟩, fun w1 _ => by simp [Builtin.firstCells, loadCells, loadCellsFrom]⟩
   ·rename_i h0
    cases hc : cellsAt w0 st a (n * sz) with
    | none => simp [hc] at hn
    | some cs =>
     simp only [hc, Option.map_some, Option.some.injEq, Prod.mk.injEq] at hn
     obtain ⟨rfl, rfl⟩ := hn
     obtain ⟨a'', cs', e, hl, hl', hcell, hrel, hone⟩ := cellsAt_sound hs (hp (by omega)) hc
     cases e
     refine ⟨some a', n, c', cs', rfl, rfl, hl, ⟨by rw [hl, hl'], hrel, hone⟩, fun w1 hw1 => ?_⟩
     have := run_firstCells_some (P := P) w1 sz n a' n c' cs' hl' (fun j v hj => by rw [hw1]; exact hcell j v hj)
     exact this
 | _ => simp [newCells] at hn

theorem zeroCells_eq (zs : List Value) (n : Nat) : Builtin.zeroCells zs.toArray n = (zeros n zs).toArray := by
 have := range_zeros zs n
 simp only [Builtin.zeroCells, List.size_toArray] at this ⊢
 exact this

theorem grow_fin {μ : Mp} {st : St} {w : World} (hs : Sim P w0 μ st w) {e : TypeId} {sz : Nat} {zs : List Value} (hzl : zs.length = sz) (hce : P.cellsOf e = sz)
  {k : Nat} {all all' : List Value} (hl : all.length = k * sz) (hrel : RelC P w0.heap.size μ all all') {cap : Nat} (hcap : k ≤ cap) :
  Sim P w0 (upd μ st.next ⟨w.heap.size, 0, cap * sz, e⟩) (st.alloc (.cells all e)) (w.drew.alloc (.cells (all'.toArray ++ (zeros (cap - k) zs).toArray) e)) ∧
  VRel P w0.heap.size (upd μ st.next ⟨w.heap.size, 0, cap * sz, e⟩) (.slice (some ⟨st.next, 0, none⟩) k sz) (.slice (some ⟨w.heap.size, 0, none⟩) k cap) ∧
  Ext μ (upd μ st.next ⟨w.heap.size, 0, cap * sz, e⟩) := by
 have hl' : all'.length = k * sz := by rw [← hrel.len, hl]
 have harr : (all'.toArray ++ (zeros (cap - k) zs).toArray : Array Value).size = cap * sz := by
  simp only [Array.size_append, List.size_toArray, zeros_length, hzl, hl']
  rw [← Nat.add_mul]
  congr 1; omega
 have hb : BlkAt P w0.heap.size μ ⟨w.heap.size, 0, cap * sz, e⟩ (.cells all e) (.cells (all'.toArray ++ (zeros (cap - k) zs).toArray) e (0, 0)) := by
  refine ⟨rfl, rfl, rfl, harr, ?_, ?_, hrel.one⟩
  ·simp only [Nat.zero_add]
   rw [hl]; exact Nat.mul_le_mul_right _ hcap
  ·intro j u hj
   have hlt : j < all'.length := by rw [← hrel.len]; exact (List.getElem?_eq_some_iff.1 hj).1
   refine ⟨all'[j], ?_, hrel.rel _ _ _ hj (by simp [hlt])⟩
   simp only [Nat.zero_add]
   rw [Array.getElem?_append_left (by simpa using hlt)]
   simp [hlt]
 have hsim := (Sim.drew hs)
 have hold : Sim P w0 μ st (w.drew.alloc (.cells (all'.toArray ++ (zeros (cap - k) zs).toArray) e)) := by
  refine Sim.of (hsim.old.alloc hsim.old.size _) hs.next hs.fresh (fun b mm hmm => ?_) hs.hi (fun b bk mm hb' hmm => ?_) hs.inj
  ·have := hs.lo b mm hmm
   exact ⟨this.1, this.2.1, Nat.lt_of_lt_of_eq (Nat.lt_succ_of_lt this.2.2) (World.size_alloc ..).symm⟩
  ·obtain ⟨o, h1, h2⟩ := hs.at hb' hmm
   have := (hs.lo b mm hmm).2.2
   refine ⟨o, ?_, h2⟩
   rw [heap_push, if_neg (by show mm.blk ≠ w.heap.size; omega)]; exact h1
 refine ⟨hold.new (m := ⟨w.heap.size, 0, cap * sz, e⟩) (by rw [heap_push]; exact if_pos rfl) hs.old.size hb
  (fun b m' _ hm' => by have := (hs.lo b m' hm').2.2; simp only; omega), ?_, Ext.upd (hs.fresh _ (Nat.le_refl _)).1 _⟩
 have := VRel.slice (P := P) (n0 := w0.heap.size) (μ := upd μ st.next ⟨w.heap.size, 0, cap * sz, e⟩) st.next 0 k sz cap _ (upd_self _ _ _) hcap
  (fun _ => ⟨hce.symm, by simp⟩)
 simpa using this

theorem append_sound {μ : Mp} {st : St} {w : World} (hs : Sim P w0 μ st w) {t e : TypeId} {i : TypeInfo} {z : Value} {zs : List Value} (hu : P.underlying t = some (.slice e)) (hi : P.info? e = some i)
  (hz : zeroOf P e = some z) (hq : cellsQ z = some zs) (hall : zs.all V.atom = true) (hzl : zs.length = i.size) (hpos : 0 < i.size)
  {s S : Value} (hss : VRel P w0.heap.size μ s S) {m : Nat} {new new' : List Value} (hln : new.length = m * i.size) (hnew : RelC P w0.heap.size μ new new')
  {v : Value} {st' : St} (he : appendV w0.heap.size st e i.size i.bytes s m new = some (v, st'))
  (run : Sem Value) (hroomN : ∀ n c, S = .slice none n c → n + m ≤ c → run.run P w = .ok (.slice none (n + m) c) w)
  (hroom : ∀ a n c, S = .slice (some a) n c → n + m ≤ c → run.run P w = (do storeCells (a.add (n * i.size)) new'; pure (.slice (some a) (n + m) c) : Sem Value).run P w)
  (hgrow : ∀ base n c old, S = .slice base n c → c < n + m → n + m < 9223372036854775807 → (n + m) * i.bytes ≤ 140737488355328 →
   (Builtin.firstCells i.size n S).run P w.drew = .ok old w.drew → run.run P w =
    .ok (.slice (some ⟨w.heap.size, 0, none⟩) (n + m) (grownCap w (n + m) c e)) (w.drew.alloc (.cells (old ++ new'.toArray ++ (zeros (grownCap w (n + m) c e - (n + m)) zs).toArray) e))) :
  ∃ v' w' μ', run.run P w = .ok v' w' ∧ VRel P w0.heap.size μ' v v' ∧ Sim P w0 μ' st' w' ∧ Ext μ μ' ∧ Keep μ st μ' st' := by
 have hce := info_cells hi
 have hln' : new'.length = m * i.size := by rw [← hnew.len, hln]
 cases s with
 | slice sa n c =>
  cases sa with
  | none =>
   have hS : S = .slice none n c := hss.atom_eq rfl
   subst hS
   simp only [appendV] at he
   split at he
   ·rename_i hc
    obtain ⟨rfl, rfl, hby, hlt⟩ := hc
    split at he
    ·rename_i h0
     subst h0
     cases he
     refine ⟨.slice none 0 0, w, μ, ?_, .atom _ rfl, hs, Ext.refl _, Keep.refl _ _⟩
     simpa using hroomN 0 0 rfl (by omega)
    ·rename_i h0
     cases he
     have hg := hgrow none 0 0 #[] rfl (by omega) (by omega) (by simpa using hby) (by simp [Builtin.firstCells])
     have hcap := grownCap_ge w (0 + m) 0 e
     obtain ⟨g1, g2, g3⟩ := grow_fin hs hzl hce hln hnew (cap := grownCap w (0 + m) 0 e) (by omega)
     have hA : (#[] ++ new'.toArray ++ (zeros (grownCap w (0 + m) 0 e - (0 + m)) zs).toArray : Array Value) = new'.toArray ++ (zeros (grownCap w (0 + m) 0 e - m) zs).toArray := by simp
     rw [hA, Nat.zero_add] at hg
     rw [Nat.zero_add] at g1 g2 g3
     refine ⟨_, _, _, hg, g2, g1, g3, ⟨Nat.le_succ _, ?_⟩⟩
     intro b hb' hn
     have hne : b ≠ st.next := by omega
     exact ⟨by rw [upd_other _ _ hne]; exact hn, by simp [St.alloc, hne]⟩
   ·cases he
  | some a =>
   simp only [appendV] at he
   split at he
   ·cases he
   ·rename_i hnb
    split at he
    ·rename_i hc
     obtain ⟨rfl, hsp, hby, hlt⟩ := hc
     split at he
     ·rename_i h0
      subst h0
      cases he
      have hn0 : new' = [] := by
       have : new'.length = 0 := by rw [hln']; simp
       exact List.length_eq_zero_iff.1 this
      subst hn0
      have hle : ∃ a' c', S = .slice (some a') n c' ∧ n ≤ c' := by
       generalize i.size = ci at hss
       cases hss with
       | atom _ h => simp [V.atom] at h
       | oldSlice _ _ _ h => exact absurd h hnb
       | oldE _ a' => exact ⟨_, _, rfl, Nat.le_refl _⟩
       | slice b o _ _ c' mm hm h1 h2 => exact ⟨_, _, rfl, h1⟩
       | sliceE _ _ a' _ _ _ => exact ⟨_, _, rfl, Nat.le_refl _⟩
      obtain ⟨a', c', rfl, hle⟩ := hle
      refine ⟨.slice (some a') n c', w, μ, ?_, hss, hs, Ext.refl _, Keep.refl _ _⟩
      rw [hroom a' n c' rfl (by omega)]
      simp [storeCells]
     ·rename_i h0
      split at he
      ·rename_i cs ty hb
       split at he
       ·rename_i hend
        obtain ⟨rfl, hend⟩ := hend
        cases he
        have hmb : ∀ b mm, (((st.kill a.block).blk b).isSome = true) → μ b = some mm → b ≠ a.block := by
         intro b mm h _ e
         subst e
         simp [St.kill] at h
        -- the concrete slice
        generalize hci : i.size = ci at hss
        cases hss with
        | atom _ h => simp [V.atom] at h
        | oldSlice _ _ _ h => exact absurd h hnb
        | oldE _ a' => exact absurd hci (by omega)
        | slice b o _ _ c' mm hm h1 h2 =>
         subst hci
         obtain ⟨_, hfit⟩ := h2 (by omega)
         obtain ⟨ob, hob, hat⟩ := hs.at hb hm
         cases ob <;> try (exact hat.elim)
         rename_i arr ty' fr
         have hat' := hat
         obtain ⟨k1, rfl, rfl, k4, k5, k6, k7⟩ := hat
         simp only at hb hend hnb hsp
         by_cases hin : n + m ≤ c'
         ·-- in place
          have hfits : mm.base + o + n * i.size + new'.length ≤ arr.size := by
           rw [hln', k4]
           have : (n + m) * i.size ≤ c' * i.size := Nat.mul_le_mul_right _ hin
           rw [Nat.add_mul] at this
           omega
          have hst := run_storeCells_at P mm.blk (mm.base + o + n * i.size) ty' new' 0 arr w hob (by simpa using hfits) hnew.one_of
          have hrun := hroom ⟨mm.blk, mm.base + o, none⟩ n c' rfl hin
          simp only [addr_add, Sem.run_bind, hst, Result.andThen_ok, Sem.run_pure, Nat.add_zero] at hrun
          generalize hW : w.setRow mm.blk (arr.toList.take (mm.base + o + n * i.size) ++ new' ++ arr.toList.drop (mm.base + o + n * i.size + new'.length)).toArray = W at hrun
          generalize hA : (arr.toList.take (mm.base + o + n * i.size) ++ new' ++ arr.toList.drop (mm.base + o + n * i.size + new'.length)).toArray = A at hW
          have hAsz : A.size = mm.size := by rw [← hA, ← k4]; simp; omega
          have hheap : ∀ j, W.heap[j]? = if j = mm.blk then some (.cells A ty' (0, 0)) else w.heap[j]? := by
           intro j; rw [← hW]; exact heap_setRow w mm.blk A arr ty' (0, 0) hob j
          have hWs : W.heap.size = w.heap.size := by rw [← hW]; simp
          have hlo := hs.lo b mm hm
          have hkill : Sim P w0 μ (st.kill b) W := by
           have hk := hs.kill b
           refine Sim.of ⟨by rw [← hW]; exact hs.old.os, by rw [← hW]; exact hs.old.tape, by rw [← hW]; exact hs.old.output, by rw [hWs]; exact hs.old.size, ?_⟩ hk.next hk.fresh ?_ hk.hi ?_ hk.inj
           ·intro k hk'
            rw [hheap, if_neg (by omega)]
            exact hs.old.block k hk'
           ·intro j mj hj; rw [hWs]; exact hs.lo j mj hj
           ·intro j bk mj hj hmj
            obtain ⟨o', q1, q2⟩ := hk.at hj hmj
            have hne : j ≠ b := hmb j mj (by rw [hj]; rfl) hmj
            have hj' : st.blk j = some bk := by simpa [St.kill, hne] using hj
            refine ⟨o', ?_, q2⟩
            rw [hheap, if_neg]
            ·exact q1
            ·intro e
             exact hne (hs.inj j b mj mm (by rw [hj']; rfl) (by rw [hb]; rfl) hmj hm e)
          have hcs : (cs.drop o).length = n * i.size := by simp; omega
          have hnb' : BlkAt P w0.heap.size μ ⟨mm.blk, mm.base + o, mm.size, ty'⟩ (.cells (cs.drop o ++ new) ty') (.cells A ty' (0, 0)) := by
           refine ⟨rfl, rfl, rfl, hAsz, ?_, ?_, ?_⟩
           ·simp only [lA, hcs, hln]
            rw [hln'] at hfits; rw [← k4]; omega
           ·intro j u hj
            rw [List.getElem?_append] at hj
            split at hj
            ·rename_i hjn
             rw [List.getElem?_drop] at hj
             obtain ⟨u', q1, q2⟩ := k6 _ _ hj
             refine ⟨u', ?_, q2⟩
             rw [← hA]
             simp only [List.getElem?_toArray]
             rw [List.getElem?_append, if_pos (by simp; omega), List.getElem?_append, if_pos (by simp; omega), List.getElem?_take, if_pos (by omega)]
             rw [show mm.base + o + j = mm.base + (o + j) by omega]
             simpa using q1
            ·rename_i hjn
             rw [hcs] at hj hjn
             have hlt : j - n * i.size < new'.length := by rw [← hnew.len]; exact (List.getElem?_eq_some_iff.1 hj).1
             refine ⟨new'[j - n * i.size], ?_, hnew.rel _ _ _ hj (by simp [hlt])⟩
             rw [← hA]
             simp only [List.getElem?_toArray]
             rw [List.getElem?_append, if_pos (by simp; omega), List.getElem?_append, if_neg (by simp; omega)]
             simp only [List.length_take, Array.length_toList]
             rw [show min (mm.base + o + n * i.size) arr.size = mm.base + o + n * i.size by omega]
             rw [show mm.base + o + j - (mm.base + o + n * i.size) = j - n * i.size by omega]
             simp [hlt]
           ·intro u hu'
            rcases List.mem_append.1 hu' with h | h
            ·exact k7 u (List.mem_of_mem_drop h)
            ·exact hnew.one u h
          have hfin := hkill.new (m := ⟨mm.blk, mm.base + o, mm.size, ty'⟩) (by rw [hheap]; exact if_pos rfl) hlo.2.1 hnb'
           (fun j mj hj hmj e => by
            have hne : j ≠ b := hmb j mj hj hmj
            have hj' : (st.blk j).isSome = true := by simpa [St.kill, hne] using hj
            exact hne (hs.inj j b mj mm hj' (by rw [hb]; rfl) hmj hm e))
          refine ⟨_, _, _, hrun, ?_, hfin, Ext.upd (hs.fresh _ (Nat.le_refl _)).1 _, ⟨Nat.le_succ _, ?_⟩⟩
          ·have := VRel.slice (P := P) (n0 := w0.heap.size) (μ := upd μ st.next ⟨mm.blk, mm.base + o, mm.size, ty'⟩) st.next 0 (n + m) i.size c' _ (upd_self _ _ _) hin
            (fun _ => ⟨hce.symm, by simpa using hfit⟩)
           simp only [Nat.add_zero] at this
           exact this
          ·intro j hj hn
           have hne : j ≠ st.next := by omega
           have hne' : j ≠ b := by intro e'; subst e'; rw [hm] at hn; cases hn
           exact ⟨(upd_other (b := st.next) _ _ hne).trans hn, by simp [St.alloc, St.kill, hne, hne']⟩
         ·-- a new row
          have hcs : (cs.drop o).length = n * i.size := by simp; omega
          have hrelo : RelC P w0.heap.size μ (cs.drop o) ((arr.toList.drop (mm.base + o)).take (n * i.size)) := by
           refine ⟨by simp; omega, ?_, fun u hu' => k7 u (List.mem_of_mem_drop hu')⟩
           intro j x y hx hy
           rw [List.getElem?_drop] at hx
           rw [List.getElem?_take] at hy
           split at hy
           ·rw [List.getElem?_drop] at hy
            obtain ⟨u', q1, q2⟩ := k6 _ _ hx
            rw [show mm.base + (o + j) = mm.base + o + j by omega] at q1
            simp only [Array.getElem?_toList] at hy
            rw [q1] at hy; cases hy
            exact q2
           ·cases hy
          have hfirst : (Builtin.firstCells i.size n (.slice (some ⟨mm.blk, mm.base + o, none⟩) n c')).run P w.drew = .ok ((arr.toList.drop (mm.base + o)).take (n * i.size)).toArray w.drew := by
           refine run_firstCells_some (P := P) w.drew i.size n _ n c' _ (by rw [← hrelo.len, hcs]) ?_
           intro j u hj
           rw [List.getElem?_take] at hj
           split at hj
           ·rw [List.getElem?_drop] at hj
            rw [addr_add]
            rw [World.cell?_drew]
            simp only [World.cell?, hob, Option.isSome_none, Bool.false_eq_true, if_false]
            simpa using hj
           ·cases hj
          have hg := hgrow (some ⟨mm.blk, mm.base + o, none⟩) n c' _ rfl (by omega) hlt hby hfirst
          have hcap := grownCap_ge w (n + m) c' ty'
          obtain ⟨g1, g2, g3⟩ := grow_fin (hs.kill b) hzl hce (k := n + m) (all := cs.drop o ++ new) (by rw [lA, hcs, hln, Nat.add_mul]) (hrelo.append hnew) hcap
          rw [show (((arr.toList.drop (mm.base + o)).take (n * i.size)).toArray ++ new'.toArray : Array Value) = ((arr.toList.drop (mm.base + o)).take (n * i.size) ++ new').toArray by simp] at hg
          refine ⟨_, _, _, hg, g2, g1, g3, ⟨Nat.le_succ _, ?_⟩⟩
          intro j hj hn
          have hne : j ≠ (st.kill b).next := by simp only [St.kill]; omega
          have hne' : j ≠ b := by intro e'; subst e'; rw [hm] at hn; cases hn
          exact ⟨(upd_other _ _ hne).trans hn, by
           have : j ≠ st.next := by omega
           simp [St.alloc, St.kill, this, hne']⟩
        | sliceE b o a' _ mm hm =>
         subst hci
         simp only [Nat.zero_mul, Nat.add_zero] at hend
         have hdrop : cs.drop o = [] := by rw [hend]; simp
         have hg := hgrow (some a') 0 0 #[] rfl (by omega) hlt hby (by simp [Builtin.firstCells, loadCells, loadCellsFrom])
         have hcap := grownCap_ge w (0 + m) 0 ty
         obtain ⟨g1, g2, g3⟩ := grow_fin (hs.kill b) hzl hce (k := 0 + m) (all := cs.drop o ++ new) (all' := new') (by rw [hdrop, List.nil_append, hln, Nat.zero_add]) (by rw [hdrop]; exact hnew) hcap
         have hA : (#[] ++ new'.toArray ++ (zeros (grownCap w (0 + m) 0 ty - (0 + m)) zs).toArray : Array Value) = new'.toArray ++ (zeros (grownCap w (0 + m) 0 ty - (0 + m)) zs).toArray := by simp
         rw [hA] at hg
         refine ⟨_, _, _, hg, g2, g1, g3, ⟨Nat.le_succ _, ?_⟩⟩
         intro j hj hn
         have hne : j ≠ (st.kill b).next := by simp only [St.kill]; omega
         have hne' : j ≠ b := by intro e'; subst e'; rw [hm] at hn; cases hn
         exact ⟨(upd_other _ _ hne).trans hn, by
          have : j ≠ st.next := by omega
          simp [St.alloc, St.kill, this, hne']⟩
       ·cases he
      ·cases he
    ·cases he
 | _ => simp [appendV] at he

end
end Go.Proofs.YtnphhelbianjpaaGreatDoor.V
namespace Go.Proofs.YtnphhelbianjpaaGreatDoor.V
open Go Go.RowKit

section
variable {P : Program} {w0 : World}

theorem hgoes_value {μ : Mp} {st : St} {w : World} {s : Sem Value} {v : Value} {st' : St}
  (h : ∃ v' w' μ', s.run P w = .ok v' w' ∧ VRel P w0.heap.size μ' v v' ∧ Sim P w0 μ' st' w' ∧ Ext μ μ' ∧ Keep μ st μ' st') :
  HGoes P w0 μ st w (do pure (.value (← s))) v st' := by
 obtain ⟨v', w', μ', h1, h2, h3, h4, h5⟩ := h
 exact ⟨.value v', v', w', μ', by simp [h1], .inl rfl, h2, h3, h4, h5⟩

theorem append_slices {μ : Mp} {st : St} {w : World} (hs : Sim P w0 μ st w) {t u e f ty : TypeId} {i : TypeInfo} {z : Value} {zs : List Value} (hu : P.underlying t = some (.slice e)) (hu' : P.underlying u = some (.slice f))
  (hi : P.info? e = some i) (hz : zeroOf P e = some z) (hq : cellsQ z = some zs) (hall : zs.all V.atom = true) (hzl : zs.length = i.size) (hpos : 0 < i.size)
  {s S x X : Value} (hss : VRel P w0.heap.size μ s S) (hxx : VRel P w0.heap.size μ x X) {m : Nat} {new : List Value} (hn : newCells w0 st i.size x = some (m, new))
  {v : Value} {st' : St} (he : appendV w0.heap.size st e i.size i.bytes s m new = some (v, st')) :
  ∃ v' w' μ', (Builtin.append_ #[t, u] ty #[S, X]).run P w = .ok v' w' ∧ VRel P w0.heap.size μ' v v' ∧ Sim P w0 μ' st' w' ∧ Ext μ μ' ∧ Keep μ st μ' st' := by
 obtain ⟨xa, xn, xc, new', rfl, rfl, hln, hnew, hfirst⟩ := newCells_sound hs hxx hn
 have hzc : z.cells = zs.toArray := cellsQ_flat hq hall
 have hzr := fun w => run_zero hz w
 refine append_sound hs hu hi hz hq hall hzl hpos hss hln hnew he _ ?_ ?_ ?_
 ·rintro n c rfl hle
  have := hfirst w (fun _ => rfl)
  simp [Builtin.append_, run_underlying hu, run_underlying hu', run_size hi, Builtin.lenOf, hle, this]
 ·rintro a n c rfl hle
  have := hfirst w (fun _ => rfl)
  simp [Builtin.append_, run_underlying hu, run_underlying hu', run_size hi, Builtin.lenOf, hle, this]
 ·rintro base n c old rfl hlt h63 hby hold
  have := hfirst w.drew (fun _ => rfl)
  have hfit := growslice_fits hlt hby
  have h1 : ¬ (9223372036854775807 < ((n : Int) + (xn : Int))) := by omega
  have h2 : ¬ (281474976710656 < Builtin.nextslicecap (n + xn) c * i.bytes) := by omega
  simp [Builtin.append_, run_underlying hu, run_underlying hu', run_size hi, run_info hi, Builtin.lenOf, show ¬ n + xn ≤ c by omega, h1, h2, Question.forced, hold, this, hzr, newRow, grownCap, hzc, zeroCells_eq]

theorem append_zeros {μ : Mp} {st : St} {w : World} (hs : Sim P w0 μ st w) {t u e ty : TypeId} {ik : IntKind} {i : TypeInfo} {z : Value} {zs : List Value} (hu : P.underlying t = some (.slice e)) (hu' : P.underlying u = some (.int ik))
  (hi : P.info? e = some i) (hz : zeroOf P e = some z) (hq : cellsQ z = some zs) (hall : zs.all V.atom = true) (hzl : zs.length = i.size) (hpos : 0 < i.size)
  {s S : Value} (hss : VRel P w0.heap.size μ s S) {m : Int} (hm0 : 0 ≤ m) (hm1 : m < 9223372036854775808)
  {v : Value} {st' : St} (he : appendV w0.heap.size st e i.size i.bytes s m.toNat (zeros m.toNat zs) = some (v, st')) (hby : m * i.bytes ≤ 281474976710656) :
  ∃ v' w' μ', (Builtin.append_ #[t, u] ty #[S, .int .i64 m]).run P w = .ok v' w' ∧ VRel P w0.heap.size μ' v v' ∧ Sim P w0 μ' st' w' ∧ Ext μ μ' ∧ Keep μ st μ' st' := by
 have hzc : z.cells = zs.toArray := cellsQ_flat hq hall
 have hzr := fun w => run_zero hz w
 have hw : IntKind.i64.wrap m = m := IntWalk.i64_in _ (by omega)
 have hneg : ¬ (m < 0) := by omega
 have hlarge : ¬ (281474976710656 < m * (i.bytes : Int)) := by omega
 have hz0 : m.toNat * i.size = 0 → zeros m.toNat zs = [] := by
  intro h0
  have : m.toNat = 0 := by
   rcases Nat.mul_eq_zero.1 h0 with h | h
   ·exact h
   ·omega
  rw [this]; rfl
 refine append_sound hs hu hi hz hq hall hzl hpos hss (by rw [zeros_length, hzl]) (relC_atoms (zeros_atoms hall _)) he _ ?_ ?_ ?_
 ·rintro n c rfl hle
  by_cases h0 : m.toNat * i.size = 0
  ·simp [Builtin.append_, run_underlying hu, run_underlying hu', run_size hi, run_info hi, asInt, asIntOf, hw, hneg, hlarge, hle, h0, hz0 h0]
  ·simp [Builtin.append_, run_underlying hu, run_underlying hu', run_size hi, run_info hi, asInt, asIntOf, hw, hneg, hlarge, hle, h0, hzr, hzc, zeroCells_eq]
 ·rintro a n c rfl hle
  by_cases h0 : m.toNat * i.size = 0
  ·simp [Builtin.append_, run_underlying hu, run_underlying hu', run_size hi, run_info hi, asInt, asIntOf, hw, hneg, hlarge, hle, h0, hz0 h0]
  ·simp [Builtin.append_, run_underlying hu, run_underlying hu', run_size hi, run_info hi, asInt, asIntOf, hw, hneg, hlarge, hle, h0, hzr, hzc, zeroCells_eq]
 ·rintro base n c old rfl hlt h63 hby hold
  have hfit := growslice_fits hlt hby
  have h1 : ¬ (9223372036854775807 < ((n : Int) + (m.toNat : Int))) := by omega
  have h2 : ¬ (281474976710656 < Builtin.nextslicecap (n + m.toNat) c * i.bytes) := by omega
  have h3 : ¬ (9223372036854775807 < ((n : Int) + max m 0)) := by omega
  by_cases h0 : m.toNat * i.size = 0
  ·simp [Builtin.append_, run_underlying hu, run_underlying hu', run_size hi, run_info hi, asInt, asIntOf, hw, hneg, hlarge, show ¬ n + m.toNat ≤ c by omega, h1, h2, h3, Question.forced, hold, hzr, newRow, grownCap, hzc, zeroCells_eq, h0, hz0 h0]
  ·simp [Builtin.append_, run_underlying hu, run_underlying hu', run_size hi, run_info hi, asInt, asIntOf, hw, hneg, hlarge, show ¬ n + m.toNat ≤ c by omega, h1, h2, h3, Question.forced, hold, hzr, newRow, grownCap, hzc, zeroCells_eq, h0]

theorem appendV_bytes {n0 : Nat} {st : St} {ty : TypeId} {sz bytes : Nat} {s : Value} {m : Nat} {new : List Value} {r : Value × St} (h : appendV n0 st ty sz bytes s m new = some r) : m * bytes ≤ 140737488355328 := by
 cases s with
 | slice a n c =>
  cases a with
  | none =>
   simp only [appendV] at h
   split at h
   ·rename_i hc; exact hc.2.2.1
   ·cases h
  | some a =>
   simp only [appendV] at h
   split at h
   ·cases h
   ·split at h
    ·rename_i hc
     have := hc.2.2.1
     rw [Nat.add_mul] at this
     omega
    ·cases h
 | _ => simp [appendV] at h

theorem copy_sound {μ : Mp} {st : St} {w : World} (hs : Sim P w0 μ st w) {t e ty : TypeId} {ts : List TypeId} {i : TypeInfo} (hu : P.underlying t = some (.slice e)) (hi : P.info? e = some i)
  {da sa : Option Addr} {dn dc sn sc : Nat} {D S : Value} (hd : VRel P w0.heap.size μ (.slice da dn dc) D) (hsr : VRel P w0.heap.size μ (.slice sa sn sc) S) {tys : Array TypeId} (ht : tys[0]? = some t)
  {v : Value} {st' : St}
  (he : (if min sn dn = 0 then some (.int .i64 0, st) else
   match da, sa with
   | some da, some sa => match st.blk da.block, cellsAt w0 st sa (min sn dn * i.size) with
    | some (.cells cs ty), some vs => if da.spot = none ∧ da.off + min sn dn * i.size ≤ cs.length then
      some (.int .i64 (min sn dn : Nat), st.set da.block (.cells (cs.take da.off ++ vs ++ cs.drop (da.off + min sn dn * i.size)) ty)) else none
    | _, _ => none
   | _, _ => none) = some (v, st')) :
  ∃ v' w' μ', (Builtin.copy_ tys ty #[D, S]).run P w = .ok v' w' ∧ VRel P w0.heap.size μ' v v' ∧ Sim P w0 μ' st' w' ∧ Ext μ μ' ∧ Keep μ st μ' st' := by
 have shape : ∀ {a : Option Addr} {n c : Nat} {X : Value}, VRel P w0.heap.size μ (.slice a n c) X → ∃ a' c', X = .slice a' n c' ∧ (a = none → a' = none) ∧
   (∀ b, a = some b → ∃ b', a' = some b' ∧ (0 < n → VRel P w0.heap.size μ (.pointer (some b)) (.pointer (some b')))) := by
  intro a n c X h
  cases a with
  | none =>
   refine ⟨none, c, h.atom_eq rfl, fun _ => rfl, ?_⟩
   intro b hb; cases hb
  | some b =>
   obtain ⟨a', c', e1, hp⟩ := slice_inv h
   refine ⟨some a', c', e1, ?_, ?_⟩
   ·intro h; cases h
   ·intro b' hb; cases hb; exact ⟨a', rfl, hp⟩
 obtain ⟨da', dc', rfl, dN, dS⟩ := shape hd
 obtain ⟨sa', sc', rfl, sN, sS⟩ := shape hsr
 have hmin : Nat.min sn dn = min sn dn := rfl
 split at he
 ·rename_i h0
  cases he
  refine ⟨.int .i64 0, w, μ, ?_, .atom _ rfl, hs, Ext.refl _, Keep.refl _ _⟩
  have hf : (Builtin.firstCells i.size 0 (.slice sa' sn sc')).run P w = .ok #[] w := by
   cases sa' <;> simp [Builtin.firstCells, loadCells, loadCellsFrom]
  simp only [Builtin.copy_, ht, List.getElem?_toArray, List.getElem?_cons_zero, List.getElem?_cons_succ, Sem.run_bind, run_underlying hu, Result.andThen_ok, Builtin.lenOf, pure_bind, run_size hi, hmin, h0, hf]
  cases da' <;> simp [storeCells, goInt]
 ·rename_i h0
  split at he
  ·rename_i d s
   split at he
   ·rename_i cs ty' vs hb hc
    split at he
    ·rename_i hcond
     obtain ⟨hsp, hle⟩ := hcond
     cases he
     obtain ⟨d', rfl, hdp⟩ := dS d rfl
     obtain ⟨s', rfl, hspp⟩ := sS s rfl
     obtain ⟨s'', vs', e1, hl, hl', hcell, hrel, hone⟩ := cellsAt_sound hs (hspp (by omega)) hc
     cases e1
     obtain ⟨m, hm, _, e2⟩ := ptr_own hs (hdp (by omega)) hb
     cases e2
     have hf := run_firstCells_some (P := P) w i.size (min sn dn) s' sn sc' vs' hl' hcell
     obtain ⟨o, ho, hat⟩ := hs.at hb hm
     cases o <;> try (exact hat.elim)
     rename_i arr ty'' fr
     have hat' := hat
     obtain ⟨h1, rfl, rfl, h4, h5, h6, h7⟩ := hat
     have hrel' : RelC P w0.heap.size μ vs vs' := ⟨by rw [hl, hl'], hrel, hone⟩
     have hst := run_storeCells_at P m.blk (m.base + d.off) ty'' vs' 0 arr w ho (by rw [hl']; omega) hrel'.one_of
     have hw := blkAt_write hat' hrel' (off := d.off) (by rw [hl]; exact hle)
     rw [hl] at hw
     refine ⟨.int .i64 (min sn dn : Nat), w.setRow m.blk (arr.toList.take (m.base + d.off) ++ vs' ++ arr.toList.drop (m.base + d.off + vs'.length)).toArray, μ, ?_, .atom _ rfl, ?_, Ext.refl _, Keep.set hm _⟩
     ·simp only [Builtin.copy_, ht, List.getElem?_toArray, List.getElem?_cons_zero, List.getElem?_cons_succ, Sem.run_bind, run_underlying hu, Result.andThen_ok, Builtin.lenOf, pure_bind, run_size hi, hmin, hf]
      simp only [Nat.add_zero] at hst
      simp [hst, goInt]
     ·refine hs.put hm (by rw [hb]; rfl) hw (by simp) (fun j => ?_) rfl rfl rfl
      exact heap_setRow w m.blk _ arr ty'' (0, 0) ho j
    ·cases he
   ·cases he
  ·cases he

theorem findD_at {str : Bool} {k : Value} : ∀ (es : List (Value × Value)) (i j : Nat) (v : Value), findD str k es i = some (some (j, v)) →
  ∃ k', i ≤ j ∧ es[j - i]? = some (k', v) ∧ keyCmp str k k' = some true := by
 intro es
 induction es with
 | nil => intro i j v h; simp [findD] at h
 | cons e es ih =>
  intro i j v h
  simp only [findD] at h
  cases hc : keyCmp str k e.1 with
  | none => simp [hc] at h
  | some b =>
   cases b with
   | true =>
    simp only [hc, Option.some.injEq, Prod.mk.injEq] at h
    obtain ⟨rfl, rfl⟩ := h
    exact ⟨e.1, Nat.le_refl _, by simp, hc⟩
   | false =>
    simp only [hc] at h
    obtain ⟨k', h1, h2, h3⟩ := ih (i + 1) j v h
    refine ⟨k', by omega, ?_, h3⟩
    rw [show j - i = (j - (i + 1)) + 1 by omega]
    simpa using h2

theorem ba_eq {a b : ByteArray} (h : (a == b) = true) : a = b := by
 cases a; cases b
 have : (_ == _) = true := h
 congr 1
 exact eq_of_beq this

theorem ba_refl (a : ByteArray) : (a == a) = true := by
 cases a with
 | mk d => exact (beq_self_eq_true d : (d == d) = true)

theorem keyCmp_same {str : Bool} {a b : Value} (h : keyCmp str a b = some true) : Instr.sameBits 10000 b a = true := by
 cases a <;> cases b <;> simp only [keyCmp] at h <;> try (cases h; done)
 ·split at h
  ·rename_i hc
   obtain ⟨_, rfl⟩ := hc
   simp at h
   subst h
   simp [Instr.sameBits]
  ·cases h
 ·split at h
  ·simp only [Option.some.injEq] at h
   have h' := ba_eq h
   rw [h']; simp only [Instr.sameBits]
   exact ba_refl _
  ·cases h

theorem mapset_sound {μ : Mp} {st : St} {w : World} (hs : Sim P w0 μ st w) {t kt et : TypeId} {d : TypeDesc} {str : Bool} (hu : P.underlying t = some (.map kt et)) (hk : P.underlying kt = some d)
  (hd : (str = true ∧ d = .string) ∨ (str = false ∧ ∃ i, d = .int i)) {b : Nat} {es : List (Value × Value)} (hb : st.blk b = some (.map es)) {M K V k v : Value}
  (hm : VRel P w0.heap.size μ (.map (some b)) M) (hkk : VRel P w0.heap.size μ k K) (hv : VRel P w0.heap.size μ v V) (hat : atom k = true) {es' : List (Value × Value)}
  (he : (match findD str k es 0 with
        | some (some (i, _)) => some (es.set i (k, v))
        | some none => some (es ++ [(k, v)])
        | none => none) = some es') :
  HGoes P w0 μ st w (do Instr.mapUpdate t M K V; pure .skip) undef (st.set b (.map es')) := by
 obtain ⟨m, rfl, hmm⟩ := hm.map_inv
 have hK : K = k := hkk.atom_eq hat
 subst hK
 obtain ⟨o, ho, hato⟩ := hs.at hb hmm
 cases o <;> try (exact hato.elim)
 rename_i arr clock
 obtain ⟨hsz, hrel⟩ := hato
 have hck : ∀ e X, (Instr.checkKey e 10000 kt X).run P w = .ok () w := by
  intro e X
  rw [show (10000 : Nat) = 9999 + 1 from rfl, Instr.checkKey]
  simp only [Sem.run_bind, run_underlying hk, Result.andThen_ok]
  rcases hd with ⟨_, rfl⟩ | ⟨_, j, rfl⟩ <;> rfl
 have hget : (getObj m.blk).run P w = .ok (.map arr clock) w := by simp [getObj, Sem.run, ho]
 have hset : ∀ o', (setObj m.blk o').run P w = .ok () { w with heap := w.heap.setIfInBounds m.blk o' } := by
  intro o'; simp [setObj, Sem.run, ho]
 have hlt : m.blk < w.heap.size := (hs.lo b m hmm).2.2
 have hheap : ∀ (o' : Obj) (i : Nat), ({ w with heap := w.heap.setIfInBounds m.blk o' } : World).heap[i]? = if i = m.blk then some o' else w.heap[i]? := by
  intro o' i
  simp only [Array.getElem?_setIfInBounds]
  by_cases e : m.blk = i
  ·subst e; simp [hlt]
  ·simp [e, Ne.symm e]
 have hfd : ∀ r, findD str K es 0 = some r → match r with
   | none => (Instr.findKey kt K arr.toList).run P w = .ok none w
   | some (j, u) => ∃ u', (Instr.findKey kt K arr.toList).run P w = .ok (some (j, u')) w := by
  intro r hr
  have h := findD_now (P := P) (w0 := w0) (μ := μ) hd es arr.toList 0 (by simpa using hsz) (fun j k v hj => by
   obtain ⟨_, e, h1, h2, h3⟩ := hrel j k v hj
   exact ⟨e, by simpa using h1, h2, h3⟩) r hr
  cases r with
  | none => simp only at h ⊢; simp [Instr.findKey, run_underlying hk, h]
  | some q =>
   obtain ⟨j, u⟩ := q
   obtain ⟨u', h1, _⟩ := h
   exact ⟨u', by simp [Instr.findKey, run_underlying hk, h1]⟩
 have fin : ∀ (o' : Obj), (Instr.mapUpdate t (.map (some m.blk)) K V).run P w = .ok () { w with heap := w.heap.setIfInBounds m.blk o' } → BlkAt P w0.heap.size μ m (.map es') o' →
   HGoes P w0 μ st w (do Instr.mapUpdate t (.map (some m.blk)) K V; pure .skip) undef (st.set b (.map es')) := by
  intro o' hrun hbo
  refine ⟨.skip, undef, { w with heap := w.heap.setIfInBounds m.blk o' }, μ, ?_, .inr ⟨rfl, rfl⟩, VRel.undef, ?_, Ext.refl _, Keep.set hmm _⟩
  ·simp only [Sem.run_bind, hrun, Result.andThen_ok, Sem.run_pure]
  ·exact hs.put hmm (by rw [hb]; rfl) hbo (by simp) (hheap o') rfl rfl rfl
 split at he
 ·rename_i i u hf
  cases he
  obtain ⟨k', _, hi, hcmp⟩ := findD_at es 0 i u hf
  rw [Nat.sub_zero] at hi
  obtain ⟨_, e, he1, he2, _⟩ := hrel i k' u hi
  obtain ⟨u', hfk⟩ := hfd _ hf
  refine fin (.map (arr.modify i fun e => { e with key := K, val := V }) clock) ?_ ?_
  ·simp only [Instr.mapUpdate, Sem.run_bind, run_underlying hu, Result.andThen_ok, hget, hck, hfk]
   have hstay : (Instr.keyThatStays (((arr[i]?).map (·.key)).getD K) K).run P w = .ok K w := by
    rw [he1]
    simp only [Option.map_some, Option.getD_some, Instr.keyThatStays, he2, keyCmp_same hcmp, if_true]
    rfl
   simp only [hstay, Result.andThen_ok, hset]
  ·refine ⟨by simp [hsz], ?_⟩
   intro j kj vj hj
   rw [List.getElem?_set] at hj
   simp only [Array.getElem?_modify]
   by_cases e : i = j
   ·subst e
    have hl : i < es.length := (List.getElem?_eq_some_iff.1 hi).1
    simp only [if_true, hl, Option.some.injEq, Prod.mk.injEq] at hj
    obtain ⟨rfl, rfl⟩ := hj
    exact ⟨hat, { e with key := K, val := V }, by rw [he1]; simp, rfl, hv⟩
   ·rw [if_neg e] at hj
    obtain ⟨q1, e', q2, q3, q4⟩ := hrel j kj vj hj
    exact ⟨q1, e', by simp [e, q2], q3, q4⟩
 ·rename_i hf
  cases he
  have hfk := hfd _ hf
  simp only at hfk
  refine fin (.map (arr.push { key := K, val := V, born := clock }) (clock + 1)) ?_ ?_
  ·simp only [Instr.mapUpdate, Sem.run_bind, run_underlying hu, Result.andThen_ok, hget, hck, hfk, hset]
  ·refine ⟨by simp [hsz], ?_⟩
   intro j kj vj hj
   rw [List.getElem?_append] at hj
   split at hj
   ·rename_i hlt'
    obtain ⟨q1, e', q2, q3, q4⟩ := hrel j kj vj hj
    have : j < arr.size := by omega
    exact ⟨q1, e', by rw [Array.getElem?_push]; rw [if_neg (by omega)]; exact q2, q3, q4⟩
   ·rename_i hlt'
    have hj0 : j - es.length = 0 := by
     have := (List.getElem?_eq_some_iff.1 hj).1
     simp at this; omega
    have : j = arr.size := by omega
    rw [hj0] at hj
    simp at hj
    obtain ⟨rfl, rfl⟩ := hj
    exact ⟨hat, _, by rw [Array.getElem?_push, if_pos this], rfl, hv⟩
 ·cases he

theorem next_sound {μ : Mp} {st : St} {w : World} (hs : Sim P w0 μ st w) {a : Addr} {X : Value} (hx : VRel P w0.heap.size μ (.pointer (some a)) X) {s : ByteArray} {pos : Nat}
  (hb : st.blk a.block = some (.iter s pos)) (h0 : a.off = 0) {ty : TypeId} {v : Value} {st' : St}
  (he : (if pos < s.size then some (.tuple #[.bool true, .int .i64 pos, .int .i32 (Utf8.decode s pos).1], st.set a.block (.iter s (pos + (Utf8.decode s pos).2)))
        else some (.tuple #[.bool false], st)) = some (v, st')) :
  ∃ v' w' μ', (Instr.next X true ty).run P w = .ok v' w' ∧ VRel P w0.heap.size μ' v v' ∧ Sim P w0 μ' st' w' ∧ Ext μ μ' ∧ Keep μ st μ' st' := by
 obtain ⟨m, hm, hsp, rfl⟩ := ptr_own hs hx hb
 obtain ⟨hbase, ho⟩ := hs.iters _ _ _ _ hb hm
 have hoff : m.base + a.off = 0 := by omega
 have hget : (getObj m.blk).run P w = .ok (.stringIter s pos) w := by simp [getObj, Sem.run, ho]
 have hlt : m.blk < w.heap.size := (hs.lo _ m hm).2.2
 split at he
 ·rename_i hp
  cases he
  have hset : ∀ o', (setObj m.blk o').run P w = .ok () { w with heap := w.heap.setIfInBounds m.blk o' } := by
   intro o'; simp [setObj, Sem.run, ho]
  refine ⟨.tuple #[.bool true, .int .i64 pos, .int .i32 (Utf8.decode s pos).1], { w with heap := w.heap.setIfInBounds m.blk (.stringIter s (pos + (Utf8.decode s pos).2)) }, μ, ?_, VRel.flat ?_, ?_, Ext.refl _, Keep.set hm _⟩
  ·rw [hoff]
   simp [Instr.next, hget, hp, hset, goInt]
  ·simp [flatV, V.atom]
  ·refine hs.put hm (by rw [hb]; rfl) (bk := .iter s (pos + (Utf8.decode s pos).2)) (o := .stringIter s (pos + (Utf8.decode s pos).2)) ⟨hbase, rfl, rfl⟩ (by simp) (fun i => ?_) rfl rfl rfl
   simp only [Array.getElem?_setIfInBounds]
   by_cases e : m.blk = i
   ·subst e; simp [hlt]
   ·simp [e, Ne.symm e]
 ·rename_i hp
  cases he
  refine ⟨.tuple #[.bool false], w, μ, ?_, VRel.flat (by simp [flatV, V.atom]), hs, Ext.refl _, Keep.refl _ _⟩
  rw [hoff]
  simp [Instr.next, hget, hp]

theorem heavy_sound {o : Oper} {h : HOp} (hc : copH P o.op = some h) {env : Env} {st st' : St} {v : Value} (he : h.eval w0 env st = some (v, st'))
  {μ : Mp} {w : World} {a : Act} (hs : Sim P w0 μ st w) (hr : ∀ x ∈ o.op.operands.toList, ∀ u, evalO env x = some u → VRel P w0.heap.size μ u (a.eval x)) :
  HGoes P w0 μ st w (execOp a.eval o) v st' := by
 obtain ⟨dst, op, type, pos, after, guard⟩ := o
 simp only at hc hr
 cases op with
 | store t x y =>
  simp only [copH] at hc
  cases hi : P.info? t with
  | none => simp [hi] at hc
  | some i =>
   simp only [hi, Option.map_some, Option.some.injEq] at hc
   subst hc
   simp only [HOp.eval] at he
   split at he
   ·rename_i ad vs h1 h2
    split at he
    ·rename_i hcond
     split at he
     ·rename_i cs ty hb
      split at he
      ·rename_i hle
       cases he
       cases hv : evalO env y with
       | none => simp [hv] at h2
       | some u =>
        simp only [hv, Option.bind_some] at h2
        exact store_sound hs hi (hr x (by simp [Op.operands]) _ h1) (hr y (by simp [Op.operands]) _ hv) h2 hcond.2 hb hle
      ·cases he
     ·cases he
    ·cases he
   ·cases he
 | call c =>
  obtain ⟨callee, args, tys⟩ := c
  simp only [copH] at hc
  split at hc
  ·rename_i s x t u hargs htys
   have ea : args = #[s, x] := by apply Array.ext'; simpa using hargs
   have et : tys = #[t, u] := by apply Array.ext'; simpa using htys
   subst ea; subst et
   split at hc
   ·rename_i e hu
    split at hc
    ·rename_i i z hi hz
     split at hc
     ·rename_i zs hq
      split at hc
      ·rename_i hcond
       obtain ⟨hall, hzl, hpos⟩ := hcond
       split at hc
       ·rename_i f hu'
        cases hc
        simp only [HOp.eval] at he
        split at he
        ·rename_i sv xv h1 h2
         split at he
         ·rename_i m new hn
          have := append_slices (ty := type) hs hu hu' hi hz hq hall hzl hpos (hr s (by simp [Op.operands, Call.operands]) _ h1) (hr x (by simp [Op.operands, Call.operands]) _ h2) hn he
          have h := hgoes_value this
          simpa [execOp, resolve, invoke, builtin] using h
         ·cases he
        ·cases he
       ·rename_i ik hu'
        cases hc
        simp only [HOp.eval] at he
        split at he
        ·rename_i sv m h1 h2
         split at he
         ·rename_i hm
          have e2 := (hr x (by simp [Op.operands, Call.operands]) _ h2).int_eq
          have hby := appendV_bytes he
          have hby' : m * (i.bytes : Int) ≤ 281474976710656 := by
           have h3 := Int.ofNat_le.2 hby
           rw [Int.natCast_mul, show ((m.toNat : Nat) : Int) = m by omega] at h3
           omega
          have := append_zeros (ty := type) hs hu hu' hi hz hq hall hzl hpos (hr s (by simp [Op.operands, Call.operands]) _ h1) hm.1 hm.2 he hby'
          have h := hgoes_value this
          simpa [execOp, resolve, invoke, builtin, e2] using h
         ·cases he
        ·cases he
       ·cases hc
      ·cases hc
     ·cases hc
    ·cases hc
   ·cases hc
  ·rename_i d s t ts hargs htys
   have ea : args = #[d, s] := by apply Array.ext'; simpa using hargs
   subst ea
   have et : tys[0]? = some t := by rw [← Array.getElem?_toList, htys]; rfl
   split at hc
   ·rename_i e hu
    cases hi : P.info? e with
    | none => simp [hi] at hc
    | some i =>
     simp only [hi, Option.map_some, Option.some.injEq] at hc
     subst hc
     simp only [HOp.eval] at he
     split at he
     ·rename_i da dn dc sa sn sc h1 h2
      have := copy_sound (ty := type) (ts := ts) hs hu hi (hr d (by simp [Op.operands, Call.operands]) _ h1) (hr s (by simp [Op.operands, Call.operands]) _ h2) et he
      have h := hgoes_value this
      simpa [execOp, resolve, invoke, builtin] using h
     ·cases he
   ·cases hc
  ·cases hc
 | mapUpdate t m k x =>
  simp only [copH] at hc
  split at hc
  ·rename_i kt et hu
   have main : ∀ (str : Bool) (d : TypeDesc), ((str = true ∧ d = .string) ∨ (str = false ∧ ∃ i, d = .int i)) → P.underlying kt = some d → h = .mapset str m k x →
     HGoes P w0 μ st w (execOp a.eval ⟨dst, .mapUpdate t m k x, type, pos, after, guard⟩) v st' := by
    intro str d hd hk hh
    subst hh
    simp only [HOp.eval] at he
    split at he
    ·rename_i b kv xv h1 h2 h3
     split at he
     ·rename_i es hb
      split at he
      ·rename_i hat
       have key : ∃ es', (match findD str kv es 0 with
         | some (some (i, _)) => some (es.set i (kv, xv))
         | some none => some (es ++ [(kv, xv)])
         | none => none) = some es' ∧ v = undef ∧ st' = st.set b (.map es') := by
        split at he
        ·rename_i hfd; cases he; exact ⟨_, (by first | rw [hfd] | rfl), rfl, rfl⟩
        ·rename_i hfd; cases he; exact ⟨_, (by first | rw [hfd] | rfl), rfl, rfl⟩
        ·cases he
       obtain ⟨es', h4, rfl, rfl⟩ := key
       exact mapset_sound hs hu hk hd hb (hr m (by simp [Op.operands]) _ h1) (hr k (by simp [Op.operands]) _ h2) (hr x (by simp [Op.operands]) _ h3) hat h4
      ·cases he
     ·cases he
    ·cases he
   split at hc
   ·rename_i hk
    exact main true _ (.inl ⟨rfl, rfl⟩) hk (Option.some.inj hc).symm
   ·rename_i j hk
    exact main false _ (.inr ⟨rfl, j, rfl⟩) hk (Option.some.inj hc).symm
   ·cases hc
  ·cases hc
 | insert t m k x =>
  simp only [copH] at hc
  split at hc
  ·rename_i kt et hu
   have main : ∀ (str : Bool) (d : TypeDesc), ((str = true ∧ d = .string) ∨ (str = false ∧ ∃ i, d = .int i)) → P.underlying kt = some d → h = .mapset str m k x →
     HGoes P w0 μ st w (execOp a.eval ⟨dst, .insert t m k x, type, pos, after, guard⟩) v st' := by
    intro str d hd hk hh
    subst hh
    simp only [HOp.eval] at he
    split at he
    ·rename_i b kv xv h1 h2 h3
     split at he
     ·rename_i es hb
      split at he
      ·rename_i hat
       have key : ∃ es', (match findD str kv es 0 with
         | some (some (i, _)) => some (es.set i (kv, xv))
         | some none => some (es ++ [(kv, xv)])
         | none => none) = some es' ∧ v = undef ∧ st' = st.set b (.map es') := by
        split at he
        ·rename_i hfd; cases he; exact ⟨_, (by first | rw [hfd] | rfl), rfl, rfl⟩
        ·rename_i hfd; cases he; exact ⟨_, (by first | rw [hfd] | rfl), rfl, rfl⟩
        ·cases he
       obtain ⟨es', h4, rfl, rfl⟩ := key
       exact mapset_sound hs hu hk hd hb (hr m (by simp [Op.operands]) _ h1) (hr k (by simp [Op.operands]) _ h2) (hr x (by simp [Op.operands]) _ h3) hat h4
      ·cases he
     ·cases he
    ·cases he
   split at hc
   ·rename_i hk
    exact main true _ (.inl ⟨rfl, rfl⟩) hk (Option.some.inj hc).symm
   ·rename_i j hk
    exact main false _ (.inr ⟨rfl, j, rfl⟩) hk (Option.some.inj hc).symm
   ·cases hc
  ·cases hc
 | next x b =>
  cases b with
  | false => simp [copH] at hc
  | true =>
   simp only [copH, Option.some.injEq] at hc
   subst hc
   simp only [HOp.eval] at he
   split at he
   ·rename_i ad h1
    split at he
    ·rename_i s pos hb
     split at he
     ·rename_i hcond
      exact hgoes_value (next_sound (ty := type) hs (hr x (by simp [Op.operands]) _ h1) hb hcond.1 he)
     ·cases he
    ·cases he
   ·cases he
 | _ => simp [copH] at hc

end
end Go.Proofs.YtnphhelbianjpaaGreatDoor.V
