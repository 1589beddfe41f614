/-
  The abstract semantics 'V', part 5: operations that make a block, and those that write.
-/
import Derived.Test.YtnndjlgkhfinjaaV4
set_option linter.all false
set_option linter.unusedSimpArgs false
set_option linter.unusedVariables false
set_option linter.unnecessarySimpa false
namespace Go.Proofs.Ytnndjlgkhfinjaa.V
open Go Go.RowKit

/-! ### Operations that make a block -/

inductive AOp where
  | cells (cs : List Value) (ty : TypeId)
  | box (n : Nat) (ty : TypeId) (x : Operand)
  | row (ty : TypeId) (sz len : Nat) (zero : List Value) (parts : List (Nat × Operand))
  | make (ty : TypeId) (sz bytes : Nat) (zero : List Value) (l c : Operand)
  | mkmap
  | iter (x : Operand)

def ptrTo (b : Nat) : Value := .pointer (some ⟨b, 0, none⟩)

def zeros (n : Nat) (zs : List Value) : List Value := (List.replicate n zs).flatten

def AOp.eval (env : Env) : AOp → Option (Blk × (Nat → Value))
  | .cells cs ty => some (.cells cs ty, ptrTo)
  | .box n ty x => match (evalO env x).bind cellsQ with
    | some cs => if cs.length = n then some (.cells cs ty, ptrTo) else none
    | none => none
  | .row ty sz len zero parts => match evalParts env parts with
    | some l => (fillL ((List.range len).map fun i => (i * sz, sz)) zero l).map fun cs => (.cells cs ty, fun b => .slice (some ⟨b, 0, none⟩) len sz)
    | none => none
  | .make ty sz bytes zero l c => match evalO env l, evalO env c with
    | some (.int .i64 n), some (.int .i64 m) =>
      if 0 ≤ n ∧ n = m ∧ n * bytes ≤ 140737488355328 ∧ n < 9223372036854775808 then some (.cells (zeros n.toNat zero) ty, fun b => .slice (some ⟨b, 0, none⟩) n.toNat sz) else none
    | _, _ => none
  | .mkmap => some (.map [], fun b => .map (some b))
  | .iter x => match evalO env x with
    | some (.string s) => some (.iter s 0, ptrTo)
    | _ => none

section
variable (P : Program) (w0 : World)

def copA : Op → Option AOp
  | .alloc e => match zeroOf P e with
    | some z => (match cellsQ z with | some cs => if cs.all atom then some (.cells cs e) else none | none => none)
    | none => none
  | .box e x => (P.info? e).map fun i => .box i.size e x
  | .buildSlice t len parts => match P.underlying t with
    | some (.slice e) => (match P.info? e, zeroOf P e with
      | some i, some z => (match cellsQ z with
        | some zs => if zs.all atom ∧ zs.length = i.size ∧ 0 < i.size ∧ len * i.size ≤ 16777216 then some (.row e i.size len (zeros len zs) parts.toList) else none
        | none => none)
      | _, _ => none)
    | _ => none
  | .makeSlice t l c => match P.underlying t with
    | some (.slice e) => (match P.info? e, zeroOf P e with
      | some i, some z => (match cellsQ z with
        | some zs => if zs.all atom ∧ zs.length = i.size ∧ 0 < i.size then some (.make e i.size i.bytes zs l c) else none
        | none => none)
      | _, _ => none)
    | _ => none
  | .makeMap _ none => some .mkmap
  | .range t x => match P.underlying t with
    | some .string => some (.iter x)
    | _ => none
  | _ => none

/-- What a new block of the world is, for one of the abstract state. -/
def ObjRel (n0 : Nat) (μ : Mp) : Blk → Obj → Prop
  | .cells cs ty, .cells arr ty' fr => ty' = ty ∧ fr = (0, 0) ∧ RelC P n0 μ cs arr.toList
  | .map es, .map arr _ => es = [] ∧ arr = #[]
  | .iter s pos, .stringIter s' pos' => s' = s ∧ pos' = pos
  | _, _ => False

def locOf (B : Nat) : Obj → Loc
  | .cells arr ty _ => ⟨B, 0, arr.size, ty⟩
  | _ => ⟨B, 0, 0, 0⟩

variable {P w0}

def upd (μ : Mp) (b : Nat) (l : Loc) : Mp := fun i => if i = b then some l else μ i

theorem upd_self (μ : Mp) (b : Nat) (l : Loc) : upd μ b l b = some l := by simp [upd]
theorem upd_other (μ : Mp) {b i : Nat} (l : Loc) (h : i ≠ b) : upd μ b l i = μ i := by simp [upd, h]
theorem Ext.upd {μ : Mp} {b : Nat} (h : μ b = none) (l : Loc) : Ext μ (upd μ b l) := by
  intro i m hm
  by_cases e : i = b
  · subst e; rw [h] at hm; cases hm
  · rw [upd_other _ _ e]; exact hm

theorem heap_push (w : World) (o : Obj) (i : Nat) : (w.alloc o).heap[i]? = if i = w.heap.size then some o else w.heap[i]? := by
  simp only [World.alloc, Array.getElem?_push]

/-- A block of the abstract state comes into the world. -/
theorem Sim.birth {μ : Mp} {st : St} {w : World} (h : Sim P w0 μ st w) {b : Nat} {bk : Blk} {o : Obj} (hb : st.blk b = some bk) (hm : μ b = none) (hn : b < st.next)
    (ho : ObjRel P w0.heap.size μ bk o) : Sim P w0 (upd μ b (locOf w.heap.size o)) st (w.alloc o) := by
  have hext := Ext.upd hm (locOf w.heap.size o)
  have hb0 : w0.heap.size ≤ b := by
    rcases Nat.lt_or_ge b w0.heap.size with hlt | hge
    · rw [h.hi b hlt] at hb; cases hb
    · exact hge
  have hw0 : w0.heap.size ≤ w.heap.size := h.old.size
  have hlb : (locOf w.heap.size o).blk = w.heap.size := by cases o <;> rfl
  refine ⟨h.old.alloc hw0 o, h.next, ?_, ?_, h.hi, ?_, ?_, ?_, ?_⟩
  · intro i hi
    rw [upd_other _ _ (by omega)]
    exact h.fresh i hi
  · intro i m hi
    by_cases e : i = b
    · subst e
      rw [upd_self] at hi; cases hi
      rw [hlb]
      exact ⟨hb0, hw0, Nat.lt_of_lt_of_eq (Nat.lt_succ_self _) (World.size_alloc ..).symm⟩
    · rw [upd_other _ _ e] at hi
      have := h.lo i m hi
      exact ⟨this.1, this.2.1, Nat.lt_of_lt_of_eq (Nat.lt_succ_of_lt this.2.2) (World.size_alloc ..).symm⟩
  · intro i cs ty m hi hmi
    by_cases e : i = b
    · subst e
      rw [upd_self] at hmi; cases hmi
      rw [hb] at hi; cases hi
      cases o with
      | cells arr ty' fr =>
        obtain ⟨rfl, rfl, hrel⟩ := ho
        refine ⟨rfl, arr, ?_, rfl, ?_, ?_, hrel.one⟩
        · rw [heap_push]; simp [locOf]
        · have := hrel.len; simp [locOf] at this ⊢; omega
        · intro j v hj
          have hlt : j < arr.toList.length := by rw [← hrel.len]; exact (List.getElem?_eq_some_iff.1 hj).1
          refine ⟨arr.toList[j], ?_, ?_⟩
          · simp [locOf] at hlt ⊢; try simp [hlt]
          · exact (hrel.rel j v _ hj (by simp [hlt])).ext hext
      | _ => exact ho.elim
    · rw [upd_other _ _ e] at hmi
      obtain ⟨h1, arr, h2, h3, h4, h5, h6⟩ := h.cells i cs ty m hi hmi
      refine ⟨h1, arr, ?_, h3, h4, ?_, h6⟩
      · rw [heap_push, if_neg (by have := (h.lo i m hmi).2.2; omega)]; exact h2
      · intro j v hj
        obtain ⟨v', k1, k2⟩ := h5 j v hj
        exact ⟨v', k1, k2.ext hext⟩
  · intro i es m hi hmi
    by_cases e : i = b
    · subst e
      rw [upd_self] at hmi; cases hmi
      rw [hb] at hi; cases hi
      cases o with
      | map arr clock =>
        obtain ⟨rfl, rfl⟩ := ho
        exact ⟨#[], clock, by rw [heap_push]; simp [locOf], rfl, by simp⟩
      | _ => exact ho.elim
    · rw [upd_other _ _ e] at hmi
      obtain ⟨arr, clock, h2, h3, h4⟩ := h.maps i es m hi hmi
      refine ⟨arr, clock, ?_, h3, ?_⟩
      · rw [heap_push, if_neg (by have := (h.lo i m hmi).2.2; omega)]; exact h2
      · intro j k v hj
        obtain ⟨q1, e, q2, q3, q4⟩ := h4 j k v hj
        exact ⟨q1, e, q2, q3, q4.ext hext⟩
  · intro i s pos m hi hmi
    by_cases e : i = b
    · subst e
      rw [upd_self] at hmi; cases hmi
      rw [hb] at hi; cases hi
      cases o with
      | stringIter s' pos' =>
        obtain ⟨rfl, rfl⟩ := ho
        exact ⟨rfl, by rw [heap_push]; simp [locOf]⟩
      | _ => exact ho.elim
    · rw [upd_other _ _ e] at hmi
      obtain ⟨h1, h2⟩ := h.iters i s pos m hi hmi
      exact ⟨h1, by rw [heap_push, if_neg (by have := (h.lo i m hmi).2.2; omega)]; exact h2⟩
  · intro i i' m m' hi hi' hmi hmi' hbb
    by_cases e : i = b <;> by_cases e' : i' = b
    · omega
    · subst e
      rw [upd_self] at hmi; cases hmi
      rw [upd_other _ _ e'] at hmi'
      have := (h.lo i' m' hmi').2.2
      omega
    · subst e'
      rw [upd_self] at hmi'; cases hmi'
      rw [upd_other _ _ e] at hmi
      have := (h.lo i m hmi).2.2
      omega
    · rw [upd_other _ _ e] at hmi
      rw [upd_other _ _ e'] at hmi'
      exact h.inj i i' m m' hi hi' hmi hmi' hbb

/-- The abstract state may have a block that the world has not yet. -/
theorem Sim.ahead {μ : Mp} {st : St} {w : World} (h : Sim P w0 μ st w) (bk : Blk) : Sim P w0 μ (st.alloc bk) w := by
  have hn := (h.fresh st.next (Nat.le_refl _)).1
  have ne : ∀ i m, μ i = some m → i ≠ st.next := by
    intro i m hi e; subst e; rw [hn] at hi; cases hi
  have nx := h.next
  refine ⟨h.old, Nat.le_succ_of_le h.next, ?_, h.lo, ?_, ?_, ?_, ?_, ?_⟩
  · intro i hi
    have hi' : st.next + 1 ≤ i := hi
    have := h.fresh i (by omega)
    exact ⟨this.1, by simp only [St.alloc]; rw [if_neg (by omega)]; exact this.2⟩
  · intro i hi
    simp only [St.alloc]; rw [if_neg (by omega)]; exact h.hi i hi
  · intro i cs ty m hi hm
    simp only [St.alloc, if_neg (ne i m hm)] at hi
    exact h.cells i cs ty m hi hm
  · intro i es m hi hm
    simp only [St.alloc, if_neg (ne i m hm)] at hi
    exact h.maps i es m hi hm
  · intro i s pos m hi hm
    simp only [St.alloc, if_neg (ne i m hm)] at hi
    exact h.iters i s pos m hi hm
  · intro i i' m m' hi hi' hm hm' hb
    simp only [St.alloc, if_neg (ne i m hm)] at hi
    simp only [St.alloc, if_neg (ne i' m' hm')] at hi'
    exact h.inj i i' m m' hi hi' hm hm' hb

/-! ### The model's operations that make a block -/

theorem range_zeros (zs : List Value) (n : Nat) : (Array.range (n * zs.length)).map (fun i => zs.toArray[i % zs.toArray.size]!) = (zeros n zs).toArray := by
  apply Array.ext'
  simp only [Array.toList_map, Array.toList_range]
  induction n with
  | zero => simp [zeros]
  | succ n ih =>
    rw [Nat.add_mul, Nat.one_mul, List.range_add, List.map_append, ih]
    simp only [zeros, List.replicate_succ', List.flatten_append, List.flatten_cons, List.flatten_nil, List.append_nil, List.map_map]
    congr 1
    apply List.ext_getElem?
    intro j
    simp only [List.getElem?_map, List.getElem?_range, Function.comp]
    by_cases hj : j < zs.length
    · rw [List.getElem?_range hj, List.getElem?_eq_getElem hj]
      simp only [Option.map_some, List.size_toArray]
      have hm : (n * zs.length + j) % zs.length = j := by rw [Nat.mul_comm, Nat.mul_add_mod, Nat.mod_eq_of_lt hj]
      simp [hm, hj]
    · rw [List.getElem?_eq_none (by simpa using hj), List.getElem?_eq_none (by simpa using hj)]
      rfl

theorem relC_atoms {n0 : Nat} {μ : Mp} {cs : List Value} (h : cs.all V.atom = true) : RelC P n0 μ cs cs := by
  have := relC_flat (P := P) (n0 := n0) (μ := μ) (z := .agg cs.toArray) (by simp only [flatV]; simpa using h) (by simp)
  exact this

theorem zeros_atoms {zs : List Value} (h : zs.all V.atom = true) (n : Nat) : (zeros n zs).all V.atom = true := by
  induction n with
  | zero => rfl
  | succ n ih => simpa [zeros, List.replicate_succ, h] using ih

theorem zeros_length (n : Nat) (zs : List Value) : (zeros n zs).length = n * zs.length := by
  induction n with
  | zero => simp [zeros]
  | succ n ih => simp [zeros, List.replicate_succ] at ih ⊢; rw [Nat.add_mul]; omega

theorem fill_congr (g : Nat → Option (Nat × Nat)) (tab : List (Nat × Nat)) (h : ∀ i x, tab[i]? = some x → g i = some x) : ∀ (l : List (Nat × Value)) (cs r : Array Value),
    Instr.fill (tab[·]?) cs l = some r → Instr.fill g cs l = some r := by
  intro l
  induction l with
  | nil => intro cs r hr; exact hr
  | cons x l ih =>
    intro cs r hr
    obtain ⟨i, v⟩ := x
    simp only [Instr.fill] at hr ⊢
    cases ht : tab[i]? with
    | none => simp [ht] at hr
    | some q =>
      obtain ⟨off, size⟩ := q
      simp only [ht] at hr
      simp only [h i _ ht]
      split at hr
      · cases hr
      · rename_i hc
        rw [if_neg hc]
        exact ih _ _ hr

theorem fillL_length (tab : List (Nat × Nat)) : ∀ (l : List (Nat × List Value)) (cs r : List Value), fillL tab cs l = some r → r.length = cs.length := by
  intro l
  induction l with
  | nil => intro cs r h; cases h; rfl
  | cons x l ih =>
    intro cs r h
    obtain ⟨i, v⟩ := x
    simp only [fillL] at h
    split at h
    · cases h
    · split at h
      · rename_i hc
        rw [ih _ _ h]
        simp; omega
      · cases h

theorem cellsQ_of {z : Value} {cs : List Value} (h : cellsQ z = some cs) : z.cells.toList = cs := by
  cases z <;> first | (cases h; rfl) | cases h

theorem cellsQ_flat {z : Value} {cs : List Value} (h : cellsQ z = some cs) (ha : cs.all V.atom = true) : z.cells = cs.toArray := by
  apply Array.ext'; simpa using cellsQ_of h

theorem slice_new {μ : Mp} {b B n sz size : Nat} {ty : TypeId} (hm : μ b = some ⟨B, 0, size, ty⟩) (h1 : sz = P.cellsOf ty) (h2 : n * sz ≤ size) :
    VRel P w0.heap.size μ (.slice (some ⟨b, 0, none⟩) n sz) (.slice (some ⟨B, 0, none⟩) n n) := by
  have := VRel.slice (P := P) (n0 := w0.heap.size) (μ := μ) b 0 n sz n _ hm (Nat.le_refl _) (fun _ => ⟨h1, by simpa using h2⟩)
  simpa using this

theorem info_cells {e : TypeId} {i : TypeInfo} (h : P.info? e = some i) : P.cellsOf e = i.size := by simp [Program.cellsOf, h]

/-- An operation of the model that makes a block makes one like the abstract one's. -/
theorem alloc_sound {o : Oper} {A : AOp} (hc : copA P o.op = some A) {env : Env} {bk : Blk} {mk : Nat → Value} (he : A.eval env = some (bk, mk))
    {μ : Mp} {w : World} {a : Act} (hr : ∀ x ∈ o.op.operands.toList, ∀ u, evalO env x = some u → VRel P w0.heap.size μ u (a.eval x)) :
    ∃ obj v', (execOp a.eval o).run P w = .ok (.value v') (w.alloc obj) ∧ ObjRel P w0.heap.size μ bk obj ∧
      ∀ (μ' : Mp) (b : Nat), μ' b = some (locOf w.heap.size obj) → VRel P w0.heap.size μ' (mk b) v' := by
  obtain ⟨dst, op, type, pos, after, guard⟩ := o
  simp only at hc hr
  have val : ∀ (s : Sem Value) (v' : Value) (w' : World), s.run P w = .ok v' w' → (do pure (Next.value (← s)) : Sem Next).run P w = .ok (.value v') w' := by
    intro s v' w' h; simp [h]
  have ptr : ∀ (obj : Obj) (μ' : Mp) (b : Nat), (locOf w.heap.size obj).base = 0 → μ' b = some (locOf w.heap.size obj) → VRel P w0.heap.size μ' (ptrTo b) (.pointer (some ⟨w.heap.size, 0, none⟩)) := by
    intro obj μ' b h0 hb
    have := VRel.ptr (P := P) (n0 := w0.heap.size) b 0 _ hb
    have e : (locOf w.heap.size obj).blk = w.heap.size := by cases obj <;> rfl
    rw [h0, e] at this
    exact this
  cases op with
  | alloc e =>
    simp only [copA] at hc
    cases hz : zeroOf P e with
    | none => simp [hz] at hc
    | some z =>
      simp only [hz] at hc
      cases hq : cellsQ z with
      | none => simp [hq] at hc
      | some cs =>
        simp only [hq] at hc
        split at hc
        · rename_i hall
          cases hc
          cases he
          refine ⟨.cells cs.toArray e, _, ?_, ⟨rfl, rfl, relC_atoms hall⟩, fun μ' b hb => ptr _ μ' b rfl hb⟩
          simp only [execOp]
          refine val _ _ _ ?_
          simp only [Instr.alloc, Sem.run_bind, run_zero hz, Result.andThen_ok, newVar, newRow, cellsQ_flat hq hall, run_newObj, Sem.run_pure]
          rfl
        · cases hc
  | box e x =>
    simp only [copA] at hc
    cases hi : P.info? e with
    | none => simp [hi] at hc
    | some i =>
      simp only [hi, Option.map_some, Option.some.injEq] at hc
      subst hc
      simp only [AOp.eval] at he
      split at he
      · rename_i cs hcs
        split at he
        · rename_i hlen
          cases he
          cases h1 : evalO env x with
          | none => simp [h1] at hcs
          | some u =>
            simp only [h1, Option.bind_some] at hcs
            have hrel := cellsQ_rel (hr x (by simp [Op.operands]) _ h1) hcs
            refine ⟨.cells (a.eval x).cells e, _, ?_, ⟨rfl, rfl, hrel⟩, fun μ' b hb => ptr _ μ' b rfl hb⟩
            simp only [execOp]
            refine val _ _ _ ?_
            simp only [Instr.box, newVar, newRow, Sem.run_bind, run_newObj, Result.andThen_ok, Sem.run_pure]
            rfl
        · cases he
      · cases he
  | buildSlice t len parts =>
    simp only [copA] at hc
    split at hc
    · rename_i e hu
      split at hc
      · rename_i i z hi hz
        split at hc
        · rename_i zs hzs
          split at hc
          · rename_i hcond
            obtain ⟨hall, hzl, hpos, hsmall⟩ := hcond
            cases hc
            simp only [AOp.eval] at he
            split at he
            · rename_i pl hpl
              cases hfl : fillL ((List.range len).map fun k => (k * i.size, i.size)) (zeros len zs) pl with
              | none => simp [hfl] at he
              | some cs =>
                simp only [hfl, Option.map_some, Option.some.injEq, Prod.mk.injEq] at he
                obtain ⟨rfl, rfl⟩ := he
                obtain ⟨p1, p2⟩ := evalParts_rel (P := P) (w0 := w0) (μ := μ) (a := a) parts.toList pl (fun p hp => hr p.2 (by
                    simp only [Op.operands, List.mem_map]
                    exact ⟨p, hp, rfl⟩)) hpl
                obtain ⟨r', hr', hrel⟩ := fill_rel (P := P) (n0 := w0.heap.size) (μ := μ) _ pl _ (zeros len zs) (zeros len zs) p1 p2 (relC_atoms (zeros_atoms hall len)) cs hfl
                have hfill := fill_congr (fun k => some (k * i.size, i.size)) _ (by
                  intro k x hk
                  rw [List.getElem?_map] at hk
                  cases hkk : (List.range len)[k]? with
                  | none => simp [hkk] at hk
                  | some k' =>
                    have : k' = k := by
                      have := List.getElem?_eq_some_iff.1 hkk
                      obtain ⟨_, h⟩ := this; simpa using h.symm
                    subst this
                    simpa [hkk] using hk) _ _ _ hr'
                refine ⟨.cells r'.toArray e, .slice (some ⟨w.heap.size, 0, none⟩) len len, ?_, ⟨rfl, rfl, hrel⟩, ?_⟩
                · simp only [execOp]
                  refine val _ _ _ ?_
                  have hzc : z.cells = zs.toArray := cellsQ_flat hzs hall
                  have hzero : ∀ K : Array Value → Sem Value, (if len * i.size = 0 then (do let z ← pure #[]; K z) else (do let zz ← zeroValue e; let z ← pure zz.cells; K z) : Sem Value).run P w = (K (if len * i.size = 0 then #[] else zs.toArray)).run P w := by
                    intro K
                    split
                    · rfl
                    · simp only [Sem.run_bind, run_zero hz, Result.andThen_ok, Sem.run_pure, hzc]
                  have hin : (Array.range (len * i.size)).map (fun k => (if len * i.size = 0 then (#[] : Array Value) else zs.toArray)[k % (if len * i.size = 0 then (#[] : Array Value) else zs.toArray).size]!) = (zeros len zs).toArray := by
                    by_cases h0 : len * i.size = 0
                    · have : len = 0 := by
                        rcases Nat.mul_eq_zero.1 h0 with h | h
                        · exact h
                        · omega
                      subst this
                      simp [zeros]
                    · rw [if_neg h0, ← hzl]
                      exact range_zeros zs len
                  simp only [Instr.buildSlice, Sem.run_bind, run_underlying hu, Result.andThen_ok, run_size hi]
                  rw [if_neg (by omega)]
                  refine (hzero _).trans ?_
                  simp only [hin]
                  have hp' : (parts.map fun p => (p.1, a.eval p.2)).toList = parts.toList.map fun p => (p.1, a.eval p.2) := by simp
                  rw [hp', hfill]
                  simp only [newRow, Sem.run_bind, run_newObj, Result.andThen_ok, Sem.run_pure]
                  rfl
                · intro μ' b hb
                  refine slice_new hb (info_cells hi).symm ?_
                  have h1 := fillL_length _ _ _ _ hfl
                  rw [zeros_length, hzl] at h1
                  have h2 := hrel.len
                  simp only [List.size_toArray]
                  omega
            · cases he
          · cases hc
        · cases hc
      · cases hc
    · cases hc
  | makeSlice t l c =>
    simp only [copA] at hc
    split at hc
    · rename_i e hu
      split at hc
      · rename_i i z hi hz
        split at hc
        · rename_i zs hzs
          split at hc
          · rename_i hcond
            obtain ⟨hall, hzl, hpos⟩ := hcond
            cases hc
            simp only [AOp.eval] at he
            split at he
            · rename_i n m h1 h2
              split at he
              · rename_i hb
                obtain ⟨h0, rfl, hby, hlt⟩ := hb
                cases he
                have e1 := (hr l (by simp [Op.operands]) _ h1).int_eq
                have e2 := (hr c (by simp [Op.operands]) _ h2).int_eq
                refine ⟨.cells (zeros n.toNat zs).toArray e, .slice (some ⟨w.heap.size, 0, none⟩) n.toNat n.toNat, ?_, ⟨rfl, rfl, relC_atoms (zeros_atoms hall _)⟩, ?_⟩
                · simp only [execOp, e1, e2]
                  refine val _ _ _ ?_
                  have hw : IntKind.i64.wrap n = n := IntWalk.i64_in _ (by omega)
                  have hby' : (i.bytes : Int) * n ≤ 140737488355328 := by rw [Int.mul_comm]; exact hby
                  have hlarge : (decide (n < 0) || decide ((i.bytes : Int) * n > 2 ^ 48)) = false := by
                    simp; omega
                  have hzc : z.cells = zs.toArray := cellsQ_flat hzs hall
                  have hzero : ∀ K : Array Value → Sem Value, (if n.toNat * i.size = 0 then K #[] else (do let zz ← zeroValue e; K zz.cells) : Sem Value).run P w = (K (if n.toNat * i.size = 0 then #[] else zs.toArray)).run P w := by
                    intro K
                    split
                    · rfl
                    · simp only [Sem.run_bind, run_zero hz, Result.andThen_ok, Sem.run_pure, hzc]
                  have hin : (Array.range (n.toNat * i.size)).map (fun k => (if n.toNat * i.size = 0 then (#[] : Array Value) else zs.toArray)[k % (if n.toNat * i.size = 0 then (#[] : Array Value) else zs.toArray).size]!) = (zeros n.toNat zs).toArray := by
                    by_cases h0 : n.toNat * i.size = 0
                    · have : n.toNat = 0 := by
                        rcases Nat.mul_eq_zero.1 h0 with h | h
                        · exact h
                        · omega
                      rw [this]
                      simp [zeros]
                    · rw [if_neg h0, ← hzl]
                      exact range_zeros zs _
                  have hcond : (((decide (n < 0) || decide ((i.bytes : Int) * n > 2 ^ 48)) || decide (n < 0)) || decide (n > n)) = false := by
                    rw [hlarge]; simp; omega
                  simp only [Instr.makeSlice, Sem.run_bind, run_underlying hu, Result.andThen_ok, asInt, asIntOf, pure_bind, Sem.run_pure, run_info hi, hw]
                  simp only [hcond, Bool.false_eq_true, if_false, Sem.run_bind, run_askRoom, Result.andThen_ok, run_size hi]
                  refine (hzero (fun z => do let ad ← newRow e (Array.map (fun x => z[x % z.size]!) (Array.range (n.toNat * i.size))); pure (Value.slice (some ad) n.toNat n.toNat))).trans ?_
                  simp only [hin, newRow, Sem.run_bind, run_newObj, Sem.run_pure]
                  rfl
                · intro μ' b hb
                  refine slice_new hb (info_cells hi).symm ?_
                  simp [zeros_length, hzl]
              · cases he
            · cases he
          · cases hc
        · cases hc
      · cases hc
    · cases hc
  | makeMap t r =>
    cases r with
    | some _ => simp [copA] at hc
    | none =>
      simp only [copA, Option.some.injEq] at hc
      subst hc
      simp only [AOp.eval, Option.some.injEq, Prod.mk.injEq] at he
      obtain ⟨rfl, rfl⟩ := he
      refine ⟨.map #[] 0, .map (some w.heap.size), ?_, ⟨rfl, rfl⟩, ?_⟩
      · simp only [execOp]
        refine val _ _ _ ?_
        simp only [Instr.makeMap, Option.map_none, Sem.run_bind, run_newObj, Result.andThen_ok, Sem.run_pure]
        rfl
      · intro μ' b hb
        exact .map b _ hb
  | range t x =>
    simp only [copA] at hc
    split at hc
    · rename_i hu
      cases hc
      simp only [AOp.eval] at he
      split at he
      · rename_i s h1
        cases he
        have e1 : a.eval x = .string s := (hr x (by simp [Op.operands]) _ h1).atom_eq rfl
        refine ⟨.stringIter s 0, _, ?_, ⟨rfl, rfl⟩, fun μ' b hb => ptr _ μ' b rfl hb⟩
        simp only [execOp, e1]
        refine val _ _ _ ?_
        simp only [Instr.range, Sem.run_bind, run_underlying hu, Result.andThen_ok, Sem.run_pure, run_newObj]
        rfl
      · cases he
    · cases hc
  | _ => simp [copA] at hc

end
end Go.Proofs.Ytnndjlgkhfinjaa.V
