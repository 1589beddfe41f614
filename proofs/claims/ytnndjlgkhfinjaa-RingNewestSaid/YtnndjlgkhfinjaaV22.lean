/-
  The abstract semantics 'V', part 22: from a law's walk to its row: what the arguments are, what is left of them.
-/
import Derived.Test.YtnndjlgkhfinjaaV21
import Derived.ProofKit
import Derived.Carry
set_option linter.all false
set_option linter.unusedSimpArgs false
set_option linter.unusedVariables false
set_option linter.unnecessarySimpa false
namespace Go.Proofs.Ytnndjlgkhfinjaa.V
open Go Go.RowKit Go.ChangeShapes Go.WideShapes

/-- The state in which a law begins: nothing of one's own. -/
def st0 (W : World) : St := ⟨fun _ => none, W.heap.size⟩

theorem ok0 (W : World) : Ok W (st0 W) := ⟨Nat.le_refl _, fun _ _ => rfl, fun _ _ => rfl⟩

theorem sim0 (P : Program) (W : World) : Sim P W (fun _ => none) (st0 W) W :=
  { old := Below.refl _ _, next := Nat.le_refl _, fresh := fun _ _ => ⟨rfl, rfl⟩, lo := fun _ _ h => (by cases h), hi := fun _ _ => rfl, cells := fun _ _ _ _ h => (by cases h), maps := fun _ _ _ h => (by cases h), iters := fun _ _ _ _ h => (by cases h),
    inj := fun _ _ _ _ h => (by cases h) }

/-- A law's walk, in the world. -/
theorem law_calls {P : Program} {W : World} {f : FuncId} {args : List Value} (h : DCalls P W f args (st0 W) fun v _ => v = .bool true) (hr : ∀ v ∈ args, VRel P W.heap.size (fun _ => none) v v) :
    Calls P f args.toArray W fun e W' => e = .returned (.bool true) ∧ Below W.heap.size W W' := by
  refine (h.2 (fun _ => none) W args (sim0 P W) ⟨rfl, fun j x y hx hy => ?_⟩).mono ?_
  · rw [hx] at hy; cases hy
    exact hr x (List.mem_of_getElem? hx)
  · rintro e W' ⟨v, v', st', μ', rfl, hv, rfl, hs, _, _⟩
    exact ⟨by rw [hv.bool_eq], hs.old⟩

section
variable {H : Type} {enc : TypeId × Value → H} {P : Program}

theorem trodAll_below (hl : laidOutB P = true) {W W' : World} (hb : Below W.heap.size W W') : ∀ {ts : List TypeId} {vs : List Value} {ds : List (DataW H)} {ps : List MemPlace}, (∀ t ∈ ts, P.readableRec t = true ∧ t < P.types.size) →
    DataW.TrodAll enc P W 0 (fun _ => true) true ts vs ds ps → (∀ x ∈ ps, x.block < W.heap.size) → DataW.TrodAll enc P W' 0 (fun b => decide (b < W.heap.size)) true ts vs ds ps
  | [], [], [], _, _, h, _ => h
  | t :: ts, v :: vs, d :: ds, ps, ht, h, hp => by
    obtain ⟨p, q, h1, h2, rfl⟩ := h
    exact ⟨p, q, Below.trod hl (ht t (List.mem_cons_self ..)).1 (ht t (List.mem_cons_self ..)).2 h1 hb (fun x hx => hp x (List.mem_append_left _ hx)), trodAll_below hl hb (fun t' h' => ht t' (List.mem_cons_of_mem _ h')) h2 (fun x hx => hp x (List.mem_append_right _ hx)), rfl⟩
  | [], _ :: _, _, _, _, h, _ => h.elim
  | [], [], _ :: _, _, _, h, _ => h.elim
  | _ :: _, [], _, _, _, h, _ => h.elim
  | _ :: _, _ :: _, [], _, _, h, _ => h.elim

/-- 'true', and all as it was. -/
theorem law_post {fn : Func} {s : ChangeSpec} {apart fresh handsOn : Bool} {W W' : World} {args : Array Value} {ds gs : List (DataW H)} {before : List MemPlace} {tb : TypeId} (hl : laidOutB P = true)
    (ht : ∀ t ∈ fn.params.toList, P.readableRec t = true ∧ t < P.types.size) (hrt : fn.resultTypes = #[tb]) (htb : P.underlying tb = some .bool) (hs : s.vars = []) (hfn : s.fn H (ds ++ []) = { results := [.lit (.bool true)], args := ds })
    (hW : DataW.Whole enc P fn.params.toList s.vars apart W args.toList ds gs before) (hb : Below W.heap.size W W') : s.post enc P fn apart fresh handsOn false W args (.bool true) W' := by
  have hW' := hW
  obtain ⟨p, q, hA, hV, rfl, hfz, hnd⟩ := hW
  rw [hs] at hV
  cases gs with
  | cons _ _ => exact hV.elim
  | nil =>
  have hq : q = [] := hV
  subst hq
  refine ⟨ds, [], p ++ [], [], p, [], hW', ?_, ?_, ?_, hb.frame _, fun h => by cases h⟩
  · rw [hrt, hfn]
    exact trodAll_mk1 ⟨1, by simp [DataW.trod, Value.cells, htb]⟩
  · rw [hfn]
    exact trodAll_below hl hb ht hA fun x hx => by simpa using hW'.lt x (List.mem_append_left _ hx)
  · rw [hs, hfn]; rfl

/-! ### What the arguments are -/
variable {W : World} {fuel : Nat} {t : TypeId} {cs : List Value} {x : DataW H × List MemPlace}

theorem tr_int {k : IntKind} (ht : P.underlying t = some (.int k)) (h : DataW.trod enc P W 0 (fun _ => true) true fuel t cs = some x) : ∃ n, cs = [.int k n] ∧ (Lit.int k n).wf = true := by
  cases fuel with
  | zero => cases h
  | succ fuel =>
    simp only [DataW.trod, ht] at h
    split at h <;> simp_all
theorem tr_str (ht : P.underlying t = some .string) (h : DataW.trod enc P W 0 (fun _ => true) true fuel t cs = some x) : ∃ s : ByteArray, cs = [.string s] ∧ s.size ≤ maxLen := by
  cases fuel with
  | zero => cases h
  | succ fuel =>
    simp only [DataW.trod, ht] at h
    split at h <;> simp_all
theorem tr_bool (ht : P.underlying t = some .bool) (h : DataW.trod enc P W 0 (fun _ => true) true fuel t cs = some x) : ∃ b, cs = [.bool b] := by
  cases fuel with
  | zero => cases h
  | succ fuel =>
    simp only [DataW.trod, ht] at h
    split at h <;> simp_all

theorem mapM_some {α β : Type} {g : α → Option β} : ∀ {l : List α} {ys : List β}, l.mapM g = some ys → ∀ a ∈ l, ∃ y, g a = some y := by
  intro l
  induction l with
  | nil => intro ys _ a ha; cases ha
  | cons a l ih =>
    intro ys h b hb
    simp only [List.mapM_cons, Option.bind_eq_bind, Option.bind_eq_some_iff] at h
    obtain ⟨y, hy, zs, hz, _⟩ := h
    rcases List.mem_cons.1 hb with rfl | hb
    · exact ⟨y, hy⟩
    · exact ih hz b hb

theorem tr_struct {fs : Array Field} (ht : P.underlying t = some (.struct fs)) (h : DataW.trod enc P W 0 (fun _ => true) true fuel t cs = some x) : cs.length = P.cellsOf t ∧ ∃ fuel', ∀ f ∈ fs.toList, ∃ y, DataW.trod enc P W 0 (fun _ => true) true fuel' f.type ((cs.drop f.offset).take (P.cellsOf f.type)) = some y := by
  cases fuel with
  | zero => cases h
  | succ fuel =>
    rw [DataW.trod.eq_def] at h
    simp only [ht] at h
    split at h
    · rename_i hl
      simp only [Option.map_eq_some_iff] at h
      obtain ⟨xs, hxs, _⟩ := h
      exact ⟨hl, fuel, mapM_some hxs⟩
    · cases h

theorem tr_slice {e : TypeId} (ht : P.underlying t = some (.slice e)) (h : DataW.trod enc P W 0 (fun _ => true) true fuel t cs = some x) :
    cs = [.slice none 0 0] ∨ ∃ a len cap, cs = [.slice (some a) len cap] ∧ len ≤ cap ∧ cap ≤ maxLen ∧ ∃ fuel', ∀ i, i < len → ∃ ys y, W.cells? 0 (a.add (i * P.cellsOf e)) (P.cellsOf e) = some ys ∧ DataW.trod enc P W 0 (fun _ => true) true fuel' e ys = some y := by
  cases fuel with
  | zero => cases h
  | succ fuel =>
    rw [DataW.trod.eq_def] at h
    simp only [ht] at h
    split at h
    any_goals (rename_i heq; cases heq; done)
    any_goals (cases h; done)
    · exact .inl rfl
    · rename_i a len cap heq
      cases heq
      split at h
      · rename_i hc
        simp only [Option.bind_eq_some_iff] at h
        obtain ⟨elems, he, _⟩ := h
        refine .inr ⟨_, _, _, rfl, hc.2.1, hc.2.2, fuel, fun i hi => ?_⟩
        obtain ⟨y, hy⟩ := mapM_some he i (List.mem_range.2 hi)
        simp only [Option.bind_eq_some_iff] at hy
        obtain ⟨ys, h1, h2⟩ := hy
        exact ⟨ys, y, h1, h2⟩
      · cases h
end
end Go.Proofs.Ytnndjlgkhfinjaa.V
