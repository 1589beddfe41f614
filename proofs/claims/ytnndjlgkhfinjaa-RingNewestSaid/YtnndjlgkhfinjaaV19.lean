/-
  The abstract semantics 'V', part 19: rows of elements: how they lie in cells, slices of one's own, slices of the old memory.
-/
import Derived.Test.YtnndjlgkhfinjaaV18
set_option linter.all false
set_option linter.unusedSimpArgs false
set_option linter.unusedVariables false
set_option linter.unnecessarySimpa false
namespace Go.Proofs.Ytnndjlgkhfinjaa.V
open Go Go.RowKit

section
variable {α : Type} {f : α → List Value} {sz : Nat}

theorem fm_len (hf : ∀ x, (f x).length = sz) (xs : List α) : (xs.flatMap f).length = xs.length * sz := by
  induction xs with
  | nil => simp
  | cons x xs ih => simp only [List.flatMap_cons, List.length_append, hf, ih, List.length_cons, Nat.add_mul, Nat.one_mul]; omega
theorem fm_drop (hf : ∀ x, (f x).length = sz) (xs : List α) (i : Nat) : (xs.flatMap f).drop (i * sz) = (xs.drop i).flatMap f := by
  induction i generalizing xs with
  | zero => simp
  | succ i ih =>
    cases xs with
    | nil => simp
    | cons x xs =>
      rw [List.flatMap_cons, Nat.add_mul, Nat.one_mul, Nat.add_comm, List.drop_append, hf, List.drop_eq_nil_of_le (by rw [hf]; omega), Nat.add_sub_cancel_left, List.nil_append, ih]; rfl
theorem fm_take (hf : ∀ x, (f x).length = sz) (xs : List α) (i : Nat) : (xs.flatMap f).take (i * sz) = (xs.take i).flatMap f := by
  induction i generalizing xs with
  | zero => simp
  | succ i ih =>
    cases xs with
    | nil => simp
    | cons x xs =>
      rw [List.flatMap_cons, Nat.add_mul, Nat.one_mul, Nat.add_comm, List.take_append, hf, List.take_of_length_le (by rw [hf]; omega), Nat.add_sub_cancel_left, ih]; rfl
theorem fm_at (hf : ∀ x, (f x).length = sz) {xs : List α} {i : Nat} {x : α} (h : xs[i]? = some x) : ((xs.flatMap f).drop (i * sz)).take sz = f x := by
  obtain ⟨hlt, rfl⟩ := List.getElem?_eq_some_iff.1 h
  rw [fm_drop hf, List.drop_eq_getElem_cons hlt, List.flatMap_cons, List.take_append, hf, Nat.sub_self, List.take_zero, List.append_nil, List.take_of_length_le (by rw [hf]; omega)]
theorem fm_fit (hf : ∀ x, (f x).length = sz) {xs : List α} {i : Nat} (h : i < xs.length) : i * sz + sz ≤ (xs.flatMap f).length := by
  rw [fm_len hf]
  have := Nat.mul_le_mul_right sz (show i + 1 ≤ xs.length from h)
  rw [Nat.add_mul, Nat.one_mul] at this; exact this
/-- A cell of an element. -/
theorem fm_cell (hf : ∀ x, (f x).length = sz) {xs : List α} {i j : Nat} {x : α} (h : xs[i]? = some x) (hj : j < sz) : (xs.flatMap f)[i * sz + j]? = (f x)[j]? := by
  have := congrArg (fun l => l[j]?) (fm_at hf h)
  simp only [List.getElem?_take, if_pos hj, List.getElem?_drop] at this
  exact this
theorem fm_set (hf : ∀ x, (f x).length = sz) {xs : List α} {i : Nat} (x : α) (h : i < xs.length) : (xs.flatMap f).take (i * sz) ++ f x ++ (xs.flatMap f).drop (i * sz + sz) = (xs.set i x).flatMap f := by
  rw [List.set_eq_take_append_cons_drop, if_pos h, List.flatMap_append, List.flatMap_cons, fm_take hf]
  have : i * sz + sz = (i + 1) * sz := by rw [Nat.add_mul, Nat.one_mul]
  rw [this, fm_drop hf, List.append_assoc]
theorem fm_zeros {z : α} (n : Nat) : zeros n (f z) = (List.replicate n z).flatMap f := by
  unfold zeros
  rw [List.flatMap_def, List.map_replicate]
end

/-- A slice of one's own that may be appended to: alone in its block, from its first cell to its last. -/
structure Sl (st : St) (ty : TypeId) (sz : Nat) {α : Type} (f : α → List Value) (b : Nat) (xs : List α) (a : Option Addr) (n c : Nat) : Prop where
  len : n = xs.length
  h : (a = none ∧ xs = [] ∧ c = 0) ∨ (a = some ⟨b, 0, none⟩ ∧ c = sz ∧ st.blk b = some (.cells (xs.flatMap f) ty))

section
variable {P : Program} {w0 : World} {α : Type} {f : α → List Value} {sz : Nat} {st : St} {ty : TypeId} {b n c : Nat} {xs : List α} {a : Option Addr}

theorem Sl.nil (st : St) (ty : TypeId) (sz : Nat) (f : α → List Value) (b : Nat) : Sl st ty sz f b [] none 0 0 := ⟨rfl, .inl ⟨rfl, rfl, rfl⟩⟩
theorem Sl.frame {st' : St} (h : Sl st ty sz f b xs a n c) (hb : st'.blk b = st.blk b) : Sl st' ty sz f b xs a n c :=
  ⟨h.len, h.h.imp id fun ⟨h1, h2, h3⟩ => ⟨h1, h2, by rw [hb]; exact h3⟩⟩
theorem Sl.some (h : Sl st ty sz f b xs a n c) (hn : xs ≠ []) : a = some ⟨b, 0, none⟩ ∧ c = sz ∧ st.blk b = some (.cells (xs.flatMap f) ty) := by
  rcases h.h with ⟨_, h2, _⟩ | h
  · exact absurd h2 hn
  · exact h

theorem keep_le {st st' : St} {i : Nat} {bk : Blk} (h : st.le st') (ho : Ok w0 st) (hb : st.blk i = some bk) : st'.blk i = some bk := by
  rw [h.blk i (ho.lt hb).1]; exact hb

/-- What is put behind. -/
theorem newCells_own {n : Nat} {c b o : Nat} {cs : List Value} {ty : TypeId} (hb : w0.heap.size ≤ b) (hc : st.blk b = some (.cells cs ty)) (hl : o + n * sz ≤ cs.length) :
    newCells w0 st sz (.slice (some ⟨b, o, none⟩) n c) = some (n, (cs.drop o).take (n * sz)) := by
  simp only [newCells]
  split
  · rename_i h; subst h; simp
  · rw [cellsAt_own hb hc hl]; rfl
theorem newCells_nil {c : Nat} : newCells w0 st sz (.slice none 0 c) = some (0, []) := rfl

theorem append_eval {bytes m : Nat} {ys : List α} (hf : ∀ x, (f x).length = sz) (hs : 0 < sz) (ho : Ok w0 st) (h : Sl st ty sz f b xs a n c) (hm : m = ys.length) (hb : (n + m) * bytes ≤ 140737488355328 ∧ n + m < 9223372036854775807) :
    ∃ a' n' c' b' st', appendV w0.heap.size st ty sz bytes (.slice a n c) m (ys.flatMap f) = some (.slice a' n' c', st') ∧ Sl st' ty sz f b' (xs ++ ys) a' n' c' ∧ (b' = b ∨ b' = st.next) ∧ Ok w0 st' ∧ st.next ≤ st'.next ∧
      (∀ i, i ≠ b → i < st.next → st'.blk i = st.blk i) ∧ (xs = [] → a = none → ∀ i, i < st.next → st'.blk i = st.blk i) := by
  subst hm
  rcases h.h with ⟨rfl, rfl, rfl⟩ | ⟨rfl, rfl, hblk⟩
  · have hn : n = 0 := h.len
    subst hn
    by_cases h0 : ys.length = 0
    · have : ys = [] := List.length_eq_zero_iff.1 h0
      subst this
      refine ⟨none, 0, 0, b, st, ?_, Sl.nil st ty sz f b, .inl rfl, ho, Nat.le_refl _, fun _ _ _ => rfl, fun _ _ _ _ => rfl⟩
      simp [appendV]
    · refine ⟨_, _, _, st.next, st.alloc (.cells (ys.flatMap f) ty), ?_, ⟨rfl, .inr ⟨rfl, rfl, alloc_eq _ _⟩⟩, .inr rfl, ho.alloc _, Nat.le_succ _, fun i _ hi => alloc_ne _ _ (by omega), fun _ _ i hi => alloc_ne _ _ (by omega)⟩
      have h2 : ys.length * bytes ≤ 140737488355328 ∧ ys.length < 9223372036854775807 := ⟨by simpa using hb.1, by omega⟩
      simp only [appendV, true_and, if_pos h2, if_neg h0, List.nil_append]
  · have hlt := ho.lt hblk
    have hnb : ¬ b < w0.heap.size := by omega
    have hlen := h.len
    by_cases h0 : ys.length = 0
    · have : ys = [] := List.length_eq_zero_iff.1 h0
      subst this
      refine ⟨_, n, _, b, st, ?_, by rw [List.append_nil]; exact ⟨hlen, .inr ⟨rfl, rfl, hblk⟩⟩, .inl rfl, ho, Nat.le_refl _, fun _ _ _ => rfl, fun _ _ _ _ => rfl⟩
      simp only [List.length_nil] at hb
      simp only [appendV, if_neg hnb, true_and, List.length_nil, if_pos hb, if_true]
    · have hk : Ok w0 (st.kill b) := by
        refine ⟨ho.next, ?_, ?_⟩
        · intro i hi
          by_cases e : i = b
          · subst e; simp [St.kill]
          · rw [kill_ne _ e]; exact ho.hi i hi
        · intro i hi
          by_cases e : i = b
          · subst e; simp [St.kill]
          · rw [kill_ne _ e]; exact ho.fresh i hi
      refine ⟨some ⟨st.next, 0, none⟩, n + ys.length, _, st.next, (st.kill b).alloc (.cells (xs.flatMap f ++ ys.flatMap f) ty), ?_, ⟨by rw [List.length_append, hlen], .inr ⟨rfl, rfl, ?_⟩⟩, .inr rfl, hk.alloc _, Nat.le_succ _, ?_, fun _ h => by cases h⟩
      · have e1 : 0 + n * c = (xs.flatMap f).length := by rw [fm_len hf, hlen, Nat.zero_add]
        simp only [appendV, if_neg hnb, true_and, if_pos hb, if_neg h0, hblk, if_pos e1, List.drop_zero]
      · rw [List.flatMap_append]; exact alloc_eq _ _
      · intro i h1 h2
        have e : (st.kill b).next = st.next := rfl
        rw [alloc_ne _ _ (by rw [e]; omega), kill_ne _ h1]

/-- Appending to a slice of one's own. -/
theorem wr_app {K : Env → St → Prop} {env : Env} {rest : List ROp} {d : Nat} {q : Bool} {bytes m : Nat} {s x : Operand} {X : Value} {ys : List α} {new : List Value} (hs : evalO env s = some (.slice a n c)) (hx : evalO env x = some X)
    (hf : ∀ x, (f x).length = sz) (hz : 0 < sz) (ho : Ok w0 st) (h : Sl st ty sz f b xs a n c) (hn : newCells w0 st sz X = some (m, new)) (hnew : new = ys.flatMap f) (hm : m = ys.length) (hb : (n + m) * bytes ≤ 140737488355328 ∧ n + m < 9223372036854775807)
    (k : ∀ a' n' c' b' st', Sl st' ty sz f b' (xs ++ ys) a' n' c' → (b' = b ∨ b' = st.next) → Ok w0 st' → st.next ≤ st'.next → (∀ i, i ≠ b → i < st.next → st'.blk i = st.blk i) → (xs = [] → a = none → ∀ i, i < st.next → st'.blk i = st.blk i) →
      wpR P w0 rest K ((d, .slice a' n' c') :: env) st') : wpR P w0 (⟨some d, none, .heavy (.append ty sz bytes s x), q, []⟩ :: rest) K env st := by
  subst hnew
  obtain ⟨a', n', c', b', st', h1, h2, h3, h4, h5, h6, h7⟩ := append_eval (bytes := bytes) (m := m) hf hz ho h hm hb
  refine wr_heavy (d := Option.some d) (v := .slice a' n' c') (st' := st') ?_ (by simp) (k a' n' c' b' st' h2 h3 h4 h5 h6 h7)
  simp only [HOp.eval, hs, hx, hn, h1]

/-- One element put behind: a new block. -/
theorem app1_eval {bytes : Nat} {y : α} (hf : ∀ x, (f x).length = sz) (hz : 0 < sz) (ho : Ok w0 st) (h : Sl st ty sz f b xs a n c) (hb : (n + 1) * bytes ≤ 140737488355328 ∧ n + 1 < 9223372036854775807) :
    ∃ a' n' c' st', appendV w0.heap.size st ty sz bytes (.slice a n c) 1 ([y].flatMap f) = some (.slice a' n' c', st') ∧ Sl st' ty sz f st.next (xs ++ [y]) a' n' c' ∧ Ok w0 st' ∧ st'.next = st.next + 1 ∧
      (∀ i, i < st.next → (a = none ∨ i ≠ b) → st'.blk i = st.blk i) := by
  rcases h.h with ⟨rfl, rfl, rfl⟩ | ⟨rfl, rfl, hblk⟩
  · have hn : n = 0 := h.len
    subst hn
    refine ⟨some ⟨st.next, 0, none⟩, 1, sz, st.alloc (.cells ([y].flatMap f) ty), ?_, ⟨rfl, .inr ⟨rfl, rfl, alloc_eq _ _⟩⟩, ho.alloc _, rfl, fun i hi _ => alloc_ne _ _ (by omega)⟩
    have h2 : 1 * bytes ≤ 140737488355328 ∧ 1 < 9223372036854775807 := ⟨by simpa using hb.1, by omega⟩
    simp only [appendV, true_and, if_pos h2]
    rfl
  · have hlt := ho.lt hblk
    have hnb : ¬ b < w0.heap.size := by omega
    have hlen := h.len
    refine ⟨some ⟨st.next, 0, none⟩, n + 1, c, (st.kill b).alloc (.cells (xs.flatMap f ++ [y].flatMap f) ty), ?_, ⟨by rw [List.length_append, hlen]; rfl, .inr ⟨rfl, rfl, by rw [List.flatMap_append]; exact alloc_eq _ _⟩⟩, ?_, rfl, ?_⟩
    · have e1 : 0 + n * c = (xs.flatMap f).length := by rw [fm_len hf, hlen, Nat.zero_add]
      simp only [appendV, if_neg hnb, true_and, if_pos hb, hblk, if_pos e1, List.drop_zero]
      rfl
    · refine Ok.alloc (st := st.kill b) ⟨ho.next, ?_, ?_⟩ _
      · intro i hi
        by_cases e : i = b
        · subst e; simp [St.kill]
        · rw [kill_ne _ e]; exact ho.hi i hi
      · intro i hi
        by_cases e : i = b
        · subst e; simp [St.kill]
        · rw [kill_ne _ e]; exact ho.fresh i hi
    · intro i hi h'
      rcases h' with h' | h'
      · cases h'
      · have e : (st.kill b).next = st.next := rfl
        rw [alloc_ne _ _ (by rw [e]; omega), kill_ne _ h']

theorem Sl.same {st' : St} (h : Sl st ty sz f b xs a n c) (ho : Ok w0 st) (hb : ∀ i, i < st.next → i = b → st'.blk i = st.blk i) : Sl st' ty sz f b xs a n c :=
  ⟨h.len, h.h.imp id fun ⟨h1, h2, h3⟩ => ⟨h1, h2, by rw [hb b (ho.lt h3).1 rfl]; exact h3⟩⟩
theorem Sl.le {st' : St} (h : Sl st ty sz f b xs a n c) (ho : Ok w0 st) (hl : st.le st') : Sl st' ty sz f b xs a n c := h.same ho fun i hi _ => hl.blk i hi
theorem Sl.alloc (h : Sl st ty sz f b xs a n c) (ho : Ok w0 st) (bk : Blk) : Sl (st.alloc bk) ty sz f b xs a n c := h.le ho (St.le.alloc _ _)

theorem wr_row1 {K : Env → St → Prop} {env : Env} {rest : List ROp} {d : Nat} {q : Bool} {ks : List LOp} {nx : Nat} {vs zero : List Value} {x : Operand} {v : Value} (hn : st.next = nx) (hx : evalO env x = some v) (hv : cellsQ v = some vs) (hl : vs.length = sz) (hz : zero.length = sz)
    (k : wpR P w0 rest K ((d, .slice (some ⟨nx, 0, none⟩) 1 sz) :: env) (st.alloc (.cells vs ty))) : wpR P w0 (⟨some d, none, .alloc (.row ty sz 1 zero [(0, x)]), q, ks⟩ :: rest) K env st := by
  refine wr_row hn (l := [(0, vs)]) (by simp only [evalParts, hx, Option.bind_some, hv]) ?_ k
  have h1 : vs.length = sz ∧ sz ≤ zero.length := ⟨hl, by omega⟩
  have h0 : ((List.range 1).map fun i => (i * sz, sz))[0]? = some (0, sz) := by simp
  simp only [fillL, h0, Nat.zero_add, if_pos h1, List.take_zero, List.nil_append]
  try rw [List.drop_eq_nil_of_le (by omega), List.append_nil]
theorem wr_row1A {K : Env → St → Prop} {env : Env} {rest : List ROp} {d : Nat} {q : Bool} {ks : List LOp} {nx : Nat} {vs zero : List Value} {x : Operand} (hn : st.next = nx) (hx : evalO env x = some (.agg ⟨vs⟩)) (hl : vs.length = sz) (hz : zero.length = sz)
    (k : wpR P w0 rest K ((d, .slice (some ⟨nx, 0, none⟩) 1 sz) :: env) (st.alloc (.cells vs ty))) : wpR P w0 (⟨some d, none, .alloc (.row ty sz 1 zero [(0, x)]), q, ks⟩ :: rest) K env st := wr_row1 hn hx rfl hl hz k

/-- A call that gives a value and leaves all as it is. -/
theorem wr_callP {K : Env → St → Prop} {env : Env} {rest : List ROp} {d : Nat} {q : Bool} {ks : List LOp} {fn : FuncId} {args : List Operand} {vs : List Value} {X : Value} (ha : evalArgs env args = some vs) (hc : DCalls P w0 fn vs st fun v st' => v = X ∧ st = st')
    (k : wpR P w0 rest K ((d, X) :: env) st) : wpR P w0 (⟨some d, none, .call fn args, q, ks⟩ :: rest) K env st := by
  cases q with
  | false => exact wr_call ha hc fun v st' hq _ _ => by obtain ⟨rfl, rfl⟩ := hq; exact k
  | true => exact wr_callq ha hc fun v st' hq _ _ => by obtain ⟨rfl, rfl⟩ := hq; exact ⟨St.le.refl _, k⟩

theorem wr_iaN0 {K : Env → St → Prop} {env : Env} {rest : List ROp} {d : Nat} {q : Bool} {ks : List LOp} {x i : Operand} {j : IntKind} {m : Nat} (hx : evalO env x = some (.slice (some ⟨b, 0, none⟩) n c)) (hi : evalO env i = some (.int j (m : Int))) (h : m < n)
    (k : wpR P w0 rest K ((d, .pointer (some ⟨b, m * sz, none⟩)) :: env) st) : wpR P w0 (⟨some d, none, .light (.iaS sz x i), q, ks⟩ :: rest) K env st := wr_iaN hx hi h (by rw [Nat.zero_add]; exact k)
/-- An element of a row in one's own block. -/
theorem wr_ldE {K : Env → St → Prop} {env : Env} {rest : List ROp} {d : Nat} {q : Bool} {ks : List LOp} {x : Operand} {i : Nat} {y : α} (hx : evalO env x = some (.pointer (some ⟨b, i * sz, none⟩))) (hc : st.blk b = some (.cells (xs.flatMap f) ty)) (hb : w0.heap.size ≤ b)
    (hf : ∀ x, (f x).length = sz) (hy : xs[i]? = some y) (k : wpR P w0 rest K ((d, .agg (f y).toArray) :: env) st) : wpR P w0 (⟨some d, none, .light (.ld sz true x), q, ks⟩ :: rest) K env st :=
  wr_ldn hx hc hb (fm_fit hf (List.getElem?_eq_some_iff.1 hy).1) (fm_at hf hy) k
theorem wr_storeE {K : Env → St → Prop} {env : Env} {rest : List ROp} {q : Bool} {x v : Operand} {i : Nat} {y : α} {u : Value} (hx : evalO env x = some (.pointer (some ⟨b, i * sz, none⟩))) (hv : evalO env v = some u) (hu : cellsQ u = some (f y)) (hc : st.blk b = some (.cells (xs.flatMap f) ty))
    (hf : ∀ x, (f x).length = sz) (hi : i < xs.length) (k : wpR P w0 rest K env (st.set b (.cells ((xs.set i y).flatMap f) ty))) : wpR P w0 (⟨none, none, .heavy (.store sz x v), q, []⟩ :: rest) K env st :=
  wr_store hx hv hu (hf y) hc (fm_fit hf hi) (fm_set hf y hi) k

/-! ### Slices of the old memory -/
/-- A slice that lay there when the law was called: its elements. -/
structure Old (w0 : World) (sz : Nat) (f : α → List Value) (xs : List α) (a : Option Addr) (n c : Nat) : Prop where
  len : n = xs.length
  cap : n ≤ c
  h : ∀ (i : Nat) (x : α), xs[i]? = some x → ∃ a0, a = some a0 ∧ a0.block < w0.heap.size ∧ ∀ st, cellsAt w0 st (a0.add (i * sz)) sz = some (f x)
end
end Go.Proofs.Ytnndjlgkhfinjaa.V
