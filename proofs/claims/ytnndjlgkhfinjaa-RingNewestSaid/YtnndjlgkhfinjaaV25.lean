/-
  The abstract semantics 'V', part 25: slices among a law's arguments.
-/
import Derived.Test.YtnndjlgkhfinjaaV24
set_option linter.all false
set_option linter.unusedSimpArgs false
set_option linter.unusedVariables false
set_option linter.unnecessarySimpa false
namespace Go.Proofs.Ytnndjlgkhfinjaa.V
open Go Go.RowKit

theorem mapM_all {α β : Type} {g : α → Option β} : ∀ {l : List α} {ys : List β}, l.mapM g = some ys → ys.length = l.length ∧ ∀ (i : Nat) (x : α), l[i]? = some x → g x = ys[i]? := by
  intro l
  induction l with
  | nil => intro ys h; cases h; exact ⟨rfl, fun i x hx => by simp at hx⟩
  | cons a l ih =>
    intro ys h
    simp only [List.mapM_cons, Option.bind_eq_bind, Option.bind_eq_some_iff] at h
    obtain ⟨y, hy, zs, hz, h3⟩ := h
    cases h3
    obtain ⟨h4, h5⟩ := ih hz
    refine ⟨by simp [h4], fun i x hx => ?_⟩
    cases i with
    | zero => simp at hx; subst hx; simpa using hy
    | succ i => simp at hx; simpa using h5 i x hx

/-- The cells of the old memory. -/
theorem cells_at {W : World} {A : Addr} {n : Nat} {ys : List Value} (hn : 0 < n) (h : W.cells? 0 A n = some ys) (hi : ys.all (inV W.heap.size) = true) : A.block < W.heap.size ∧ ∀ st, cellsAt W st A n = some ys := by
  unfold World.cells? at h
  rw [if_pos (Nat.zero_le _)] at h
  obtain ⟨hl, hc⟩ := mapM_all h
  rw [List.length_range] at hl
  have h0 := hc 0 0 (by rw [List.getElem?_range hn])
  have e0 : A.add 0 = A := by unfold Addr.add; rfl
  rw [e0] at h0
  have hy0 : ys[0]? = some (ys[0]'(by omega)) := List.getElem?_eq_getElem (by omega)
  rw [hy0] at h0
  unfold World.cell? at h0
  cases hb : W.heap[A.block]? with
  | none => simp [hb] at h0
  | some o =>
    cases o with
    | cells c ty fr =>
      simp only [hb] at h0
      split at h0
      · cases h0
      · rename_i hs
        have hsp : A.spot = none := by simpa using hs
        have hlt : A.block < W.heap.size := by
          rcases Nat.lt_or_ge A.block W.heap.size with h | h
          · exact h
          · rw [Array.getElem?_eq_none h] at hb; cases hb
        have cell : ∀ i, i < n → c[A.off + i]? = ys[i]? := by
          intro i hi
          have h1 := hc i i (by rw [List.getElem?_range hi])
          rw [← h1]
          have hbk : (A.add i).block = A.block := by unfold Addr.add; split <;> rfl
          have hof : (A.add i).off = A.off + i := by unfold Addr.add; split <;> simp_all
          have hsi : (A.add i).spot.isSome = false := by unfold Addr.add; split <;> simp [hsp]
          simp only [World.cell?, hbk, hb, hsi, hof, Bool.false_eq_true, if_false]
        have hfit : A.off + n ≤ c.toList.length := by
          have := cell (n - 1) (by omega)
          rw [List.getElem?_eq_getElem (by omega : n - 1 < ys.length)] at this
          have := (Array.getElem?_eq_some_iff.1 this).1
          simp; omega
        have e : (c.toList.drop A.off).take n = ys := by
          apply List.ext_getElem?
          intro i
          rw [List.getElem?_take]
          split
          · rename_i hi'
            rw [List.getElem?_drop, ← cell i hi']; simp
          · rw [List.getElem?_eq_none (by omega)]
        refine ⟨hlt, fun st => ?_⟩
        unfold cellsAt cellsOf
        simp only [if_pos hlt, hb]
        rw [if_pos ⟨hfit, hsp⟩, e, if_pos hi]
    | _ => simp [hb] at h0

/-- A slice of the old memory whose elements are all of a kind. -/
theorem old_rows {α : Type} {f : α → List Value} {sz : Nat} {p : α → Prop} {W : World} {a : Addr} {len : Nat} (hz : 0 < sz) (hin : ∀ x, (f x).all (inV W.heap.size) = true)
    (h : ∀ i, i < len → ∃ x : α, W.cells? 0 (a.add (i * sz)) sz = some (f x) ∧ p x) : ∃ xs : List α, xs.length = len ∧ (∀ x ∈ xs, p x) ∧ ∀ st, Rd W st sz f xs (some a) len := by
  induction len with
  | zero => exact ⟨[], rfl, by simp, fun st => Rd.nil _ _ _ _ _⟩
  | succ len ih =>
    obtain ⟨xs, h1, h2, h3⟩ := ih fun i hi => h i (by omega)
    obtain ⟨x, hx, hp⟩ := h len (by omega)
    refine ⟨xs ++ [x], by simp [h1], ?_, fun st => ⟨by simp [h1], fun i y hy => ?_⟩⟩
    · intro y hy
      rcases List.mem_append.1 hy with hy | hy
      · exact h2 y hy
      · simp at hy; subst hy; exact hp
    · rcases Nat.lt_or_ge i xs.length with hlt | hge
      · rw [List.getElem?_append_left hlt] at hy
        exact (h3 st).h i y hy
      · rw [List.getElem?_append_right hge] at hy
        have hi : i - xs.length = 0 := by
          have := (List.getElem?_eq_some_iff.1 hy).1
          simp at this; omega
        rw [hi] at hy
        simp at hy; subst hy
        have : i = len := by omega
        subst this
        exact ⟨a, rfl, (cells_at hz hx (hin x)).2 st⟩
theorem block_of_rows {W : World} {P : Program} {r : Reach} {base : Nat} {a : Addr} {e : TypeId} {n : Nat} (h : W.has P r base a e n) : a.block < W.heap.size := by
  obtain ⟨_, _, row, cells, hs, _⟩ := h
  unfold World.shape? at hs
  rcases Nat.lt_or_ge a.block W.heap.size with h | h
  · exact h
  · rw [Array.getElem?_eq_none h] at hs; cases hs
/-- A slice among the arguments: its value. -/
theorem slice_ok {W : World} {P : Program} {r : Reach} {base : Nat} {t e : TypeId} {v : Value} (ht : P.underlying t = some (.slice e)) (h : Value.okWide P W r base t v) :
    v = .slice none 0 0 ∨ ∃ a n c, v = .slice (some a) n c ∧ a.block < W.heap.size ∧ n ≤ c := by
  simp only [Value.okWide, ht, Cell.okWide, Cell.ok] at h
  split at h <;> simp_all
  exact ⟨_, _, _, ⟨rfl, rfl, rfl⟩, block_of_rows h.2.2, h.1⟩
end Go.Proofs.Ytnndjlgkhfinjaa.V
