/-
  The abstract semantics 'V', part 24: rows that are read, wherever they lie; slices of one's own that begin behind their block's beginning.
-/
import Derived.Test.YtnndjlgkhfinjaaV23
set_option linter.all false
set_option linter.unusedSimpArgs false
set_option linter.unusedVariables false
set_option linter.unnecessarySimpa false
namespace Go.Proofs.Ytnndjlgkhfinjaa.V
open Go Go.RowKit

section
variable {P : Program} {w0 : World} {α : Type} {f : α → List Value} {sz : Nat} {st : St} {ty : TypeId} {b n c : Nat} {xs : List α} {a : Option Addr}

theorem add_spot {a0 : Addr} {k : Nat} (h : (a0.add k).spot = none) (j : Nat) : (a0.add k).add j = a0.add (k + j) := by
  unfold Addr.add at *
  by_cases hk : k = 0
  · subst hk; simp
  · by_cases hj : j = 0
    · subst hj; simp
    · simp [hk, hj]; omega

/-- Part of what is read. -/
theorem cellsAt_sub {A : Addr} {m off : Nat} {cs : List Value} (h : cellsAt w0 st A n = some cs) (hl : off + m ≤ n) : cellsAt w0 st (A.add off) m = some ((cs.drop off).take m) := by
  unfold cellsAt at h ⊢
  have hb : (A.add off).block = A.block := by unfold Addr.add; split <;> rfl
  rw [hb]
  cases hc : cellsOf w0 st A.block with
  | none => simp [hc] at h
  | some C =>
    simp only [hc] at h ⊢
    split at h
    · rename_i hfit
      have hoff : (A.add off).off = A.off + off := by unfold Addr.add; split <;> simp_all
      have hsp : (A.add off).spot = none := by unfold Addr.add; split <;> simp_all
      rw [if_pos ⟨by rw [hoff]; omega, hsp⟩, hoff]
      have e : (C.drop (A.off + off)).take m = (((C.drop A.off).take n).drop off).take m := by
        rw [List.drop_take, List.drop_drop, List.take_take, Nat.min_eq_left (by omega)]
      split at h
      · rename_i hlt
        rw [if_pos hlt]
        split at h
        · rename_i hall
          cases h
          rw [if_pos, e]
          rw [e, List.all_eq_true]
          intro x hx
          exact List.all_eq_true.1 hall x (List.mem_of_mem_drop (List.mem_of_mem_take hx))
        · cases h
      · rename_i hlt
        cases h
        rw [if_neg hlt, e]
    · cases h

theorem cellsAt_spot {A : Addr} {cs : List Value} (h : cellsAt w0 st A n = some cs) : A.spot = none ∧ cs.length = n := by
  unfold cellsAt at h
  split at h
  · split at h
    · rename_i hfit
      refine ⟨hfit.2, ?_⟩
      split at h
      · split at h
        · cases h; simp; omega
        · cases h
      · cases h; simp; omega
    · cases h
  · cases h

/-- What is read stays where nothing of it turns. -/
theorem cellsAt_same {st' : St} {A : Addr} {cs : List Value} (h : cellsAt w0 st A n = some cs) (hs : ∀ bk, st.blk A.block = some bk → st'.blk A.block = some bk) : cellsAt w0 st' A n = some cs := by
  unfold cellsAt cellsOf at h ⊢
  by_cases hb : A.block < w0.heap.size
  · simp only [hb, if_true] at h ⊢; exact h
  · simp only [hb, if_false] at h ⊢
    cases hc : st.blk A.block with
    | none => simp [hc] at h
    | some bk => rw [hs bk hc]; rw [hc] at h; exact h

/-- A row that can be read. -/
structure Rd (w0 : World) (st : St) (sz : Nat) {α : Type} (f : α → List Value) (xs : List α) (a : Option Addr) (n : Nat) : Prop where
  len : n = xs.length
  h : ∀ (i : Nat) (x : α), xs[i]? = some x → ∃ a0, a = some a0 ∧ cellsAt w0 st (a0.add (i * sz)) sz = some (f x)

theorem Rd.le {st' : St} (h : Rd w0 st sz f xs a n) (ho : Ok w0 st) (hl : st.le st') : Rd w0 st' sz f xs a n :=
  ⟨h.len, fun i x hx => by
    obtain ⟨a0, ha, hc⟩ := h.h i x hx
    exact ⟨a0, ha, cellsAt_same hc fun bk hb => keep_le hl ho hb⟩⟩
theorem Rd.nil (w0 : World) (st : St) (sz : Nat) (f : α → List Value) (a : Option Addr) : Rd w0 st sz f [] a 0 := ⟨rfl, fun i x hx => by simp at hx⟩
theorem Rd.addr (h : Rd w0 st sz f xs a n) (hn : 0 < n) : ∃ a0, a = some a0 ∧ ∀ (i : Nat) (x : α), xs[i]? = some x → cellsAt w0 st (a0.add (i * sz)) sz = some (f x) := by
  have hl := h.len
  obtain ⟨a0, ha, _⟩ := h.h 0 xs[0] (by simp)
  refine ⟨a0, ha, fun i x hx => ?_⟩
  obtain ⟨a1, h1, h2⟩ := h.h i x hx
  rw [ha] at h1; cases h1; exact h2

/-- An element, and a cell of it. -/
theorem ld_rd {A : Addr} {cs : List Value} (h : cellsAt w0 st A n = some cs) : ldV w0 st n true (some (.pointer (some A))) = some (.agg cs.toArray) := by simp only [ldV, h, partOf, if_true]
theorem ld_rd1 {A : Addr} {v : Value} (h : cellsAt w0 st A 1 = some [v]) : ldV w0 st 1 false (some (.pointer (some A))) = some v := by simp only [ldV, h, partOf]; rfl
theorem ld_fld {A : Addr} {cs : List Value} {off : Nat} {v : Value} (h : cellsAt w0 st A n = some cs) (hv : cs[off]? = some v) : ldV w0 st 1 false (some (.pointer (some (A.add off)))) = some v := by
  have hlt := (List.getElem?_eq_some_iff.1 hv).1
  have hl := (cellsAt_spot h).2
  exact ld_rd1 (by rw [cellsAt_sub h (by omega : off + 1 ≤ n), take_one hv])
theorem ld_fld0 {A : Addr} {cs : List Value} {v : Value} (h : cellsAt w0 st A n = some cs) (hv : cs[0]? = some v) : ldV w0 st 1 false (some (.pointer (some A))) = some v := by
  have := ld_fld h hv
  have e : A.add 0 = A := by unfold Addr.add; rfl
  rwa [e] at this
theorem ld_flds {A : Addr} {cs : List Value} {off m : Nat} {vs : List Value} (h : cellsAt w0 st A n = some cs) (hl : off + m ≤ n) (hv : (cs.drop off).take m = vs) : ldV w0 st m true (some (.pointer (some (A.add off)))) = some (.agg vs.toArray) :=
  ld_rd (by rw [cellsAt_sub h hl, hv])

/-- A slice of one's own to its block's end. -/
structure SlO (st : St) (ty : TypeId) (sz : Nat) {α : Type} (f : α → List Value) (b : Nat) (xs : List α) (a : Option Addr) (n c : Nat) : Prop where
  len : n = xs.length
  h : (a = none ∧ xs = [] ∧ c = 0) ∨ ∃ o cs, a = some ⟨b, o, none⟩ ∧ c = sz ∧ st.blk b = some (.cells cs ty) ∧ o ≤ cs.length ∧ cs.drop o = xs.flatMap f

theorem Sl.toO (h : Sl st ty sz f b xs a n c) : SlO st ty sz f b xs a n c :=
  ⟨h.len, h.h.imp id fun ⟨h1, h2, h3⟩ => ⟨0, _, h1, h2, h3, Nat.zero_le _, rfl⟩⟩
theorem SlO.same {st' : St} (h : SlO st ty sz f b xs a n c) (ho : Ok w0 st) (hb : ∀ i, i < st.next → i = b → st'.blk i = st.blk i) : SlO st' ty sz f b xs a n c :=
  ⟨h.len, h.h.imp id fun ⟨o, cs, h1, h2, h3, h4⟩ => ⟨o, cs, h1, h2, by rw [hb b (ho.lt h3).1 rfl]; exact h3, h4⟩⟩
theorem SlO.le {st' : St} (h : SlO st ty sz f b xs a n c) (ho : Ok w0 st) (hl : st.le st') : SlO st' ty sz f b xs a n c := h.same ho fun i hi _ => hl.blk i hi

theorem SlO.rd (h : SlO st ty sz f b xs a n c) (hf : ∀ x, (f x).length = sz) (ho : Ok w0 st) : Rd w0 st sz f xs a n := by
  refine ⟨h.len, fun i x hx => ?_⟩
  rcases h.h with ⟨_, rfl, _⟩ | ⟨o, cs, rfl, rfl, hb, hl, hd⟩
  · simp at hx
  · have hlt := ho.lt hb
    have hi := (List.getElem?_eq_some_iff.1 hx).1
    have hfit := fm_fit hf hi
    have hcl : cs.length = o + (xs.flatMap f).length := by rw [← hd, List.length_drop]; omega
    refine ⟨_, rfl, ?_⟩
    rw [addr_add, cellsAt_own hlt.2 hb (by omega), ← List.drop_drop, hd, fm_at hf hx]
theorem Sl.rd (h : Sl st ty sz f b xs a n c) (hf : ∀ x, (f x).length = sz) (ho : Ok w0 st) : Rd w0 st sz f xs a n := h.toO.rd hf ho

/-- Without its first ones. -/
theorem SlO.drop (h : SlO st ty sz f b xs a n c) (hf : ∀ x, (f x).length = sz) (ho : Ok w0 st) {k : Nat} (hk : k ≤ n) :
    ∃ a' n' c', sliceV w0.heap.size sz (.slice a n c) (some (.int .i64 (k : Int))) none = some (.slice a' n' c') ∧ SlO st ty sz f b (xs.drop k) a' n' c' := by
  have hn := h.len
  have hr : 0 ≤ (k : Int) ∧ (k : Int) ≤ (n : Int) ∧ (n : Int) ≤ n := ⟨by omega, by omega, Int.le_refl _⟩
  rcases h.h with ⟨rfl, rfl, rfl⟩ | ⟨o, cs, rfl, rfl, hb, hl, hd⟩
  · have hn0 : n = 0 := hn
    subst hn0
    have hk0 : k = 0 := by omega
    subst hk0
    exact ⟨none, 0, 0, by simp [sliceV, lowOf, highOf], ⟨rfl, .inl ⟨rfl, rfl, rfl⟩⟩⟩
  · have hlt := ho.lt hb
    have hnb : ¬ b < w0.heap.size := by omega
    refine ⟨some ⟨b, o + k * c, none⟩, n - k, c, ?_, ⟨by rw [List.length_drop, hn], .inr ⟨o + k * c, cs, rfl, rfl, hb, ?_, ?_⟩⟩⟩
    · simp only [sliceV, lowOf, highOf, if_pos hr, if_neg hnb, Int.toNat_natCast, if_true]
    · have hcl : cs.length = o + (xs.flatMap f).length := by rw [← hd, List.length_drop]; omega
      rw [fm_len hf] at hcl
      have := Nat.mul_le_mul_right c (show k ≤ xs.length by omega)
      omega
    · rw [← List.drop_drop, hd, fm_drop hf]

/-- One element put behind: a new block. -/
theorem appO1_eval {bytes : Nat} {y : α} (hf : ∀ x, (f x).length = sz) (ho : Ok w0 st) (h : SlO st ty sz f b xs a n c) (hb : (n + 1) * bytes ≤ 140737488355328 ∧ n + 1 < 9223372036854775807) :
    ∃ a' n' c' st', appendV w0.heap.size st ty sz bytes (.slice a n c) 1 ([y].flatMap f) = some (.slice a' n' c', st') ∧ Sl st' ty sz f st.next (xs ++ [y]) a' n' c' ∧ Ok w0 st' ∧ st'.next = st.next + 1 ∧
      (∀ i, i < st.next → (a = none ∨ i ≠ b) → st'.blk i = st.blk i) := by
  rcases h.h with ⟨rfl, rfl, rfl⟩ | ⟨o, cs, rfl, rfl, hblk, hl, hd⟩
  · have hn : n = 0 := h.len
    subst hn
    refine ⟨some ⟨st.next, 0, none⟩, 1, sz, st.alloc (.cells ([y].flatMap f) ty), ?_, ⟨rfl, .inr ⟨rfl, rfl, alloc_eq _ _⟩⟩, ho.alloc _, rfl, fun i hi _ => alloc_ne _ _ (by omega)⟩
    have h2 : 1 * bytes ≤ 140737488355328 ∧ 1 < 9223372036854775807 := ⟨by simpa using hb.1, by omega⟩
    simp only [appendV, true_and, if_pos h2]
    rfl
  · have hlt := ho.lt hblk
    have hnb : ¬ b < w0.heap.size := by omega
    have hlen := h.len
    have hcl : cs.length = o + (xs.flatMap f).length := by rw [← hd, List.length_drop]; omega
    refine ⟨some ⟨st.next, 0, none⟩, n + 1, c, (st.kill b).alloc (.cells (xs.flatMap f ++ [y].flatMap f) ty), ?_, ⟨by rw [List.length_append, hlen]; rfl, .inr ⟨rfl, rfl, by rw [List.flatMap_append]; exact alloc_eq _ _⟩⟩, ?_, rfl, ?_⟩
    · have e1 : o + n * c = cs.length := by rw [hcl, fm_len hf, hlen]
      simp only [appendV, if_neg hnb, true_and, if_pos hb, hblk, if_pos e1, hd]
      rfl
    · refine Ok.alloc (st := st.kill b) ⟨ho.next, ?_, ?_⟩ _
      · intro i hi
        by_cases e : i = b
        · subst e; simp [St.kill]
        · rw [kill_ne _ e]; exact ho.hi i hi
      · intro i hi
        by_cases e : i = b
        · subst e; simp [St.kill]
        · rw [kill_ne _ e]; exact ho.fresh i hi
    · intro i hi h'
      rcases h' with h' | h'
      · cases h'
      · have e : (st.kill b).next = st.next := rfl
        rw [alloc_ne _ _ (by rw [e]; omega), kill_ne _ h']
theorem goH_appO {K : Env → St → Prop} {env : Env} {rest : List ROp} {d : Nat} {bytes bx cx : Nat} {tx : TypeId} {y : α} (hc : st.blk bx = some (.cells (f y) tx)) (hf : ∀ x, (f x).length = sz) (ho : Ok w0 st) (h : SlO st ty sz f b xs a n c)
    (hb : (n + 1) * bytes ≤ 140737488355328 ∧ n + 1 < 9223372036854775807)
    (k : ∀ a' n' c' st', Sl st' ty sz f st.next (xs ++ [y]) a' n' c' → Ok w0 st' → st'.next = st.next + 1 → (∀ i, i < st.next → (a = none ∨ i ≠ b) → st'.blk i = st.blk i) → wpR P w0 rest K ((d, .slice a' n' c') :: env) st') :
    goH P w0 (appV w0 st ty sz bytes (some (.slice a n c)) (some (.slice (some ⟨bx, 0, none⟩) 1 cx))) (some d) rest K env := by
  have hbx := ho.lt hc
  have hnew : newCells w0 st sz (.slice (some ⟨bx, 0, none⟩) 1 cx) = some (1, [y].flatMap f) := by
    rw [newCells_own hbx.2 hc (by rw [hf]; omega)]
    simp only [List.drop_zero, Nat.one_mul, List.flatMap_cons, List.flatMap_nil, List.append_nil]
    rw [List.take_of_length_le (by rw [hf]; omega)]
  obtain ⟨a', n', c', st', e, hs, ho', hn', hfr⟩ := appO1_eval (bytes := bytes) (y := y) hf ho h hb
  exact goH_of (by simp only [appV, hnew]; exact e) (k a' n' c' st' hs ho' hn' hfr)

/-- A row of the old memory. -/
theorem Rd.drop (h : Rd w0 st sz f xs a n) {k : Nat} (a' : Option Addr) (ha : ∀ a0, a = some a0 → ∀ i, i + k < n → ∃ a1, a' = some a1 ∧ a1.add (i * sz) = a0.add ((i + k) * sz)) : Rd w0 st sz f (xs.drop k) a' (n - k) := by
  have hl := h.len
  refine ⟨by rw [List.length_drop, hl], fun i x hx => ?_⟩
  rw [List.getElem?_drop] at hx
  obtain ⟨a0, h1, h2⟩ := h.h _ _ hx
  have hi := (List.getElem?_eq_some_iff.1 hx).1
  obtain ⟨a1, h3, h4⟩ := ha a0 h1 i (by omega)
  exact ⟨a1, h3, by rw [h4, Nat.add_comm i k]; exact h2⟩
end
end Go.Proofs.Ytnndjlgkhfinjaa.V
