/-
  The abstract semantics 'V', part 6: operations that write.
-/
import Derived.Test.YtnndjlgkhfinjaaV5
set_option linter.all false
set_option linter.unusedSimpArgs false
set_option linter.unusedVariables false
set_option linter.unnecessarySimpa false
namespace Go.Proofs.Ytnndjlgkhfinjaa.V
open Go Go.RowKit

section
variable (P : Program) (n0 : Nat)
/-- A block of the abstract state lies at its place. -/
def BlkAt (μ : Mp) (m : Loc) : Blk → Obj → Prop
  | .cells cs ty, .cells arr ty' fr => m.ty = ty ∧ ty' = ty ∧ fr = (0, 0) ∧ arr.size = m.size ∧ m.base + cs.length ≤ m.size ∧
      (∀ (i : Nat) (v : Value), cs[i]? = some v → ∃ v', arr[m.base + i]? = some v' ∧ VRel P n0 μ v v') ∧ ∀ v ∈ cs, v.oneCell' = true
  | .map es, .map arr _ => arr.size = es.length ∧ ∀ (i : Nat) (k v : Value), es[i]? = some (k, v) → atom k = true ∧ ∃ e : MapEntry, arr[i]? = some e ∧ e.key = k ∧ VRel P n0 μ v e.val
  | .iter s pos, .stringIter s' pos' => m.base = 0 ∧ s' = s ∧ pos' = pos
  | _, _ => False
end

section
variable {P : Program} {w0 : World}

theorem BlkAt.ext {μ μ' : Mp} (he : Ext μ μ') {m : Loc} {bk : Blk} {o : Obj} (h : BlkAt P w0.heap.size μ m bk o) : BlkAt P w0.heap.size μ' m bk o := by
  cases bk <;> cases o <;> try (exact h.elim)
  · obtain ⟨h1, h2, h3, h4, h5, h6, h7⟩ := h
    exact ⟨h1, h2, h3, h4, h5, fun i v hi => let ⟨v', a, b⟩ := h6 i v hi; ⟨v', a, b.ext he⟩, h7⟩
  · obtain ⟨h1, h2⟩ := h
    exact ⟨h1, fun i k v hi => let ⟨a, e, b, c, d⟩ := h2 i k v hi; ⟨a, e, b, c, d.ext he⟩⟩
  · exact h

theorem Sim.at {μ : Mp} {st : St} {w : World} (h : Sim P w0 μ st w) {b : Nat} {bk : Blk} {m : Loc} (hb : st.blk b = some bk) (hm : μ b = some m) :
    ∃ o, w.heap[m.blk]? = some o ∧ BlkAt P w0.heap.size μ m bk o := by
  cases bk with
  | cells cs ty =>
    obtain ⟨h1, arr, h2, h3, h4, h5, h6⟩ := h.cells b cs ty m hb hm
    exact ⟨_, h2, h1, rfl, rfl, h3, h4, h5, h6⟩
  | map es =>
    obtain ⟨arr, clock, h2, h3, h4⟩ := h.maps b es m hb hm
    exact ⟨_, h2, h3, h4⟩
  | iter s pos =>
    obtain ⟨h1, h2⟩ := h.iters b s pos m hb hm
    exact ⟨_, h2, h1, rfl, rfl⟩

theorem Sim.of {μ : Mp} {st : St} {w : World} (old : Below w0.heap.size w0 w) (next : w0.heap.size ≤ st.next) (fresh : ∀ b, st.next ≤ b → μ b = none ∧ st.blk b = none)
    (lo : ∀ b m, μ b = some m → w0.heap.size ≤ b ∧ w0.heap.size ≤ m.blk ∧ m.blk < w.heap.size) (hi : ∀ b, b < w0.heap.size → st.blk b = none)
    (at' : ∀ b bk m, st.blk b = some bk → μ b = some m → ∃ o, w.heap[m.blk]? = some o ∧ BlkAt P w0.heap.size μ m bk o)
    (inj : ∀ b b' m m', (st.blk b).isSome = true → (st.blk b').isSome = true → μ b = some m → μ b' = some m' → m.blk = m'.blk → b = b') : Sim P w0 μ st w := by
  refine ⟨old, next, fresh, lo, hi, ?_, ?_, ?_, inj⟩
  · intro b cs ty m hb hm
    obtain ⟨o, h1, h2⟩ := at' b _ m hb hm
    cases o <;> try (exact h2.elim)
    obtain ⟨k1, rfl, rfl, k4, k5, k6, k7⟩ := h2
    exact ⟨k1, _, h1, k4, k5, k6, k7⟩
  · intro b es m hb hm
    obtain ⟨o, h1, h2⟩ := at' b _ m hb hm
    cases o <;> try (exact h2.elim)
    exact ⟨_, _, h1, h2.1, h2.2⟩
  · intro b s pos m hb hm
    obtain ⟨o, h1, h2⟩ := at' b _ m hb hm
    cases o <;> try (exact h2.elim)
    obtain ⟨k1, rfl, rfl⟩ := h2
    exact ⟨k1, h1⟩

/-- A block's content is put anew, here and there. -/
theorem Sim.put {μ : Mp} {st : St} {w w' : World} (h : Sim P w0 μ st w) {b : Nat} {m : Loc} (hm : μ b = some m) (hb : (st.blk b).isSome = true) {bk : Blk} {o : Obj}
    (ho : BlkAt P w0.heap.size μ m bk o) (hsz : w'.heap.size = w.heap.size) (hh : ∀ i, w'.heap[i]? = if i = m.blk then some o else w.heap[i]?)
    (hos : w'.os = w.os) (htape : w'.tape = w.tape) (hout : w'.output = w.output) : Sim P w0 μ (st.set b bk) w' := by
  have hlo := h.lo b m hm
  refine Sim.of ⟨hos.trans h.old.os, htape.trans h.old.tape, hout.trans h.old.output, by rw [hsz]; exact h.old.size, ?_⟩ h.next ?_ ?_ ?_ ?_ ?_
  · intro k hk
    rw [hh, if_neg (by omega)]
    exact h.old.block k hk
  · intro i hi
    have := h.fresh i hi
    refine ⟨this.1, ?_⟩
    have : i ≠ b := by intro e; subst e; rw [hm] at this; cases this.1
    simp only [St.set, if_neg this]
    exact (h.fresh i hi).2
  · intro i mi hi
    rw [hsz]; exact h.lo i mi hi
  · intro i hi
    have : i ≠ b := by omega
    simp only [St.set, if_neg this]
    exact h.hi i hi
  · intro i bk' mi hi hmi
    by_cases e : i = b
    · subst e
      simp only [St.set, if_true] at hi
      cases hi
      rw [hm] at hmi; cases hmi
      exact ⟨o, by rw [hh, if_pos rfl], ho⟩
    · simp only [St.set, if_neg e] at hi
      obtain ⟨o', h1, h2⟩ := h.at hi hmi
      refine ⟨o', ?_, h2⟩
      rw [hh, if_neg]
      · exact h1
      · intro e'
        exact e (h.inj i b mi m (by rw [hi]; rfl) hb hmi hm e')
  · intro i i' mi mi' hi hi' hmi hmi' e
    have g : ∀ j, ((st.set b bk).blk j).isSome = true → (st.blk j).isSome = true := by
      intro j hj
      by_cases e : j = b
      · subst e; exact hb
      · simpa only [St.set, if_neg e] using hj
    exact h.inj i i' mi mi' (g i hi) (g i' hi') hmi hmi' e

/-- A block is given up. -/
theorem Sim.kill {μ : Mp} {st : St} {w : World} (h : Sim P w0 μ st w) (b : Nat) : Sim P w0 μ (st.kill b) w := by
  have g : ∀ i bk, (st.kill b).blk i = some bk → st.blk i = some bk := by
    intro i bk hi
    simp only [St.kill] at hi
    split at hi
    · cases hi
    · exact hi
  have g' : ∀ i, ((st.kill b).blk i).isSome = true → (st.blk i).isSome = true := by
    intro i hi
    obtain ⟨x, hx⟩ := Option.isSome_iff_exists.1 hi
    rw [g i x hx]; rfl
  refine Sim.of h.old h.next ?_ h.lo ?_ (fun i bk m hi hm => h.at (g i bk hi) hm) (fun i i' m m' hi hi' => h.inj i i' m m' (g' i hi) (g' i' hi'))
  · intro i hi
    refine ⟨(h.fresh i hi).1, ?_⟩
    simp only [St.kill]; split
    · rfl
    · exact (h.fresh i hi).2
  · intro i hi
    simp only [St.kill]; split
    · rfl
    · exact h.hi i hi

/-- A draw of the model's tape. -/
theorem Sim.drew {μ : Mp} {st : St} {w : World} (h : Sim P w0 μ st w) : Sim P w0 μ st w.drew :=
  Sim.of h.old.drew h.next h.fresh h.lo h.hi (fun _ _ _ hb hm => h.at hb hm) h.inj

/-- A new abstract block at a place of the world that no other one has. -/
theorem Sim.new {μ : Mp} {st : St} {w : World} (h : Sim P w0 μ st w) {bk : Blk} {o : Obj} {m : Loc} (hh : w.heap[m.blk]? = some o) (h0 : w0.heap.size ≤ m.blk)
    (ho : BlkAt P w0.heap.size μ m bk o) (hfree : ∀ b m', (st.blk b).isSome = true → μ b = some m' → m'.blk ≠ m.blk) : Sim P w0 (upd μ st.next m) (st.alloc bk) w := by
  have hn := (h.fresh st.next (Nat.le_refl _)).1
  have hext := Ext.upd hn m
  have hlt : m.blk < w.heap.size := (Array.getElem?_eq_some_iff.1 hh).1
  refine Sim.of h.old (Nat.le_succ_of_le h.next) ?_ ?_ ?_ ?_ ?_
  · intro i hi
    have hi' : st.next + 1 ≤ i := hi
    have := h.fresh i (by omega)
    rw [upd_other _ _ (by omega)]
    exact ⟨this.1, by simp only [St.alloc]; rw [if_neg (by omega)]; exact this.2⟩
  · intro i mi hi
    by_cases e : i = st.next
    · subst e
      rw [upd_self] at hi; cases hi
      exact ⟨h.next, h0, hlt⟩
    · rw [upd_other _ _ e] at hi
      exact h.lo i mi hi
  · intro i hi
    have := h.next
    simp only [St.alloc]; rw [if_neg (by omega)]; exact h.hi i hi
  · intro i bk' mi hi hmi
    by_cases e : i = st.next
    · subst e
      rw [upd_self] at hmi; cases hmi
      simp only [St.alloc, if_true] at hi; cases hi
      exact ⟨o, hh, ho.ext hext⟩
    · rw [upd_other _ _ e] at hmi
      simp only [St.alloc, if_neg e] at hi
      obtain ⟨o', h1, h2⟩ := h.at hi hmi
      exact ⟨o', h1, h2.ext hext⟩
  · intro i i' mi mi' hi hi' hmi hmi' hb
    by_cases e : i = st.next <;> by_cases e' : i' = st.next
    · omega
    · subst e
      rw [upd_self] at hmi; cases hmi
      rw [upd_other _ _ e'] at hmi'
      simp only [St.alloc, if_neg e'] at hi'
      exact absurd hb.symm (hfree i' mi' hi' hmi')
    · subst e'
      rw [upd_self] at hmi'; cases hmi'
      rw [upd_other _ _ e] at hmi
      simp only [St.alloc, if_neg e] at hi
      exact absurd hb (hfree i mi hi hmi)
    · rw [upd_other _ _ e] at hmi
      rw [upd_other _ _ e'] at hmi'
      simp only [St.alloc, if_neg e] at hi
      simp only [St.alloc, if_neg e'] at hi'
      exact h.inj i i' mi mi' hi hi' hmi hmi' hb

theorem heap_setRow (w : World) (g : Nat) (cs cur : Array Value) (ty : TypeId) (fr : Nat × Nat) (hg : w.heap[g]? = some (.cells cur ty fr)) (i : Nat) :
    (w.setRow g cs).heap[i]? = if i = g then some (.cells cs ty fr) else w.heap[i]? := by
  simp only [World.setRow, Array.getElem?_modify]
  by_cases e : i = g
  · subst e; simp [hg]
  · rw [if_neg e, if_neg (fun h => e h.symm)]

/-- Cells written in the middle of a block. -/
theorem blkAt_write {μ : Mp} {m : Loc} {cs : List Value} {ty : TypeId} {arr : Array Value} (h : BlkAt P w0.heap.size μ m (.cells cs ty) (.cells arr ty (0, 0))) {off : Nat} {vs vs' : List Value}
    (hv : RelC P w0.heap.size μ vs vs') (hle : off + vs.length ≤ cs.length) :
    BlkAt P w0.heap.size μ m (.cells (cs.take off ++ vs ++ cs.drop (off + vs.length)) ty)
      (.cells (arr.toList.take (m.base + off) ++ vs' ++ arr.toList.drop (m.base + off + vs'.length)).toArray ty (0, 0)) := by
  obtain ⟨h1, _, _, h4, h5, h6, h7⟩ := h
  have hl := hv.len
  refine ⟨h1, rfl, rfl, ?_, ?_, ?_, ?_⟩
  · simp; omega
  · simp; omega
  · intro i v hi
    simp only [List.getElem?_toArray]
    rw [List.getElem?_append, List.getElem?_append] at hi
    rw [List.getElem?_append, List.getElem?_append]
    simp only [List.length_append, List.length_take, Array.length_toList] at hi ⊢
    rw [show min off cs.length = off by omega] at hi
    rw [show min (m.base + off) arr.size = m.base + off by omega]
    by_cases c1 : i < off
    · rw [if_pos (by omega), if_pos c1, List.getElem?_take, if_pos c1] at hi
      rw [if_pos (by omega), if_pos (by omega), List.getElem?_take, if_pos (by omega)]
      obtain ⟨v', k1, k2⟩ := h6 i v hi
      exact ⟨v', by simpa using k1, k2⟩
    · by_cases c2 : i < off + vs.length
      · rw [if_pos c2, if_neg c1] at hi
        rw [if_pos (by omega), if_neg (by omega)]
        have : m.base + i - (m.base + off) = i - off := by omega
        rw [this]
        have hlt : i - off < vs'.length := by omega
        exact ⟨vs'[i - off], by simp [hlt], hv.rel _ _ _ hi (by simp [hlt])⟩
      · rw [if_neg c2, List.getElem?_drop] at hi
        rw [if_neg (by omega), List.getElem?_drop]
        obtain ⟨v', k1, k2⟩ := h6 _ v hi
        refine ⟨v', ?_, k2⟩
        rw [show m.base + off + vs'.length + (m.base + i - (m.base + off + vs'.length)) = m.base + (off + vs.length + (i - (off + vs.length))) by omega]
        simpa using k1
  · intro v hv'
    rcases List.mem_append.1 hv' with hv' | hv'
    · rcases List.mem_append.1 hv' with hv' | hv'
      · exact h7 v (List.mem_of_mem_take hv')
      · exact hv.one v hv'
    · exact h7 v (List.mem_of_mem_drop hv')

end
end Go.Proofs.Ytnndjlgkhfinjaa.V
