/-
  The abstract semantics 'V', part 3: the model's light operations give what the abstract ones give.
-/
import Derived.Test.YtnndjlgkhfinjaaV2
set_option linter.all false
set_option linter.unusedSimpArgs false
set_option linter.unusedVariables false
set_option linter.unnecessarySimpa false
namespace Go.Proofs.Ytnndjlgkhfinjaa.V
open Go Go.RowKit

section
variable {P : Program} {w0 : World}

theorem run_info {t : TypeId} {i : TypeInfo} (h : P.info? t = some i) (w : World) : (typeInfo t).run P w = .ok i w := by
  simp [typeInfo, h]
theorem run_size {t : TypeId} {i : TypeInfo} (h : P.info? t = some i) (w : World) : (sizeOf t).run P w = .ok i.size w := by
  simp [sizeOf, run_info h]
theorem run_zero {t : TypeId} {z : Value} (h : zeroOf P t = some z) (w : World) : (zeroValue t).run P w = .ok z w := by
  unfold zeroOf at h
  cases hi : P.info? t with
  | none => simp [hi] at h
  | some i =>
    simp only [hi, Option.bind_some] at h
    simp [zeroValue, run_info hi, h]
theorem run_agg {t : TypeId} {d : TypeDesc} (h : P.underlying t = some d) (w : World) : (isAgg t).run P w = .ok (aggD d) w := by
  unfold isAgg
  simp only [Sem.run_bind, run_underlying h, Result.andThen_ok]
  cases d <;> rfl

theorem tyAgg_eq {t : TypeId} {b : Bool} {n : Nat} (h : tyAgg P t = some (b, n)) : ∃ d i, P.underlying t = some d ∧ P.info? t = some i ∧ aggD d = b ∧ i.size = n := by
  unfold tyAgg at h
  cases hu : P.underlying t <;> cases hi : P.info? t <;> simp [hu, hi] at h
  exact ⟨_, _, rfl, rfl, h.1, h.2⟩

theorem rel_list {μ : Mp} {xs ys : List Value} (hl : xs.length = ys.length)
    (hr : ∀ (j : Nat) (x y : Value), xs[j]? = some x → ys[j]? = some y → VRel P w0.heap.size μ x y) (h1 : ∀ v ∈ xs, v.oneCell' = true) :
    VRel P w0.heap.size μ (.agg xs.toArray) (.agg ys.toArray) :=
  .agg _ _ (by simpa using hl) (fun i x y hx hy => hr i x y (by simpa using hx) (by simpa using hy)) (fun i x hx => h1 x (List.mem_of_getElem? (by simpa using hx)))

/-- What a load of a type gives. -/
theorem load_part {μ : Mp} {st : St} {w : World} (hs : Sim P w0 μ st w) {a : Addr} {v' : Value} (hr : VRel P w0.heap.size μ (.pointer (some a)) v')
    {t : TypeId} {b : Bool} {n : Nat} (ht : tyAgg P t = some (b, n)) {cs : List Value} (hc : cellsAt w0 st a (if b then n else 1) = some cs) {v : Value}
    (hp : partOf b cs = some v) : ∃ u, (Instr.loadAt t v').run P w = .ok u w ∧ VRel P w0.heap.size μ v u := by
  obtain ⟨d, i, hu, hi, hd, hn⟩ := tyAgg_eq ht
  obtain ⟨a', cs', rfl, hl, hl', hcell, hrel, hone⟩ := cellsAt_sound hs hr hc
  simp only [Instr.loadAt, Instr.sureAddr, loadVar, pure_bind, Sem.run_bind, run_agg hu, Result.andThen_ok, hd]
  cases b with
  | true =>
    simp only [if_true] at hl hl' hc
    simp only [partOf, if_true, Option.some.injEq] at hp
    subst hp
    have hrun := run_loadCells_list (P := P) w a' cs' hcell
    rw [hl', ← hn] at hrun
    simp only [if_true, Sem.run_bind, run_size hi, Result.andThen_ok, hrun, Sem.run_pure]
    exact ⟨_, rfl, rel_list (by rw [hl, hl']) hrel hone⟩
  | false =>
    simp only [Bool.false_eq_true, if_false] at hl hl' hp
    simp only [partOf, Bool.false_eq_true, if_false] at hp
    match cs, hl, hp with
    | [x], _, hp =>
      cases hp
      match cs', hl' with
      | [y], _ =>
        have hy := hcell 0 y rfl
        have : a'.add 0 = a' := by simp [Addr.add]
        rw [this] at hy
        simp only [Bool.false_eq_true, if_false, run_load, hy]
        exact ⟨_, rfl, hrel 0 _ _ rfl rfl⟩

theorem part_sound {μ : Mp} {t : TypeId} {b : Bool} {n off : Nat} (ht : tyAgg P t = some (b, n)) {xs ys : Array Value} (hs : xs.size = ys.size)
    (hr : ∀ (i : Nat) (x y : Value), xs[i]? = some x → ys[i]? = some y → VRel P w0.heap.size μ x y) (h1 : ∀ (i : Nat) (x : Value), xs[i]? = some x → x.oneCell' = true)
    (hle : off + (if b then n else 1) ≤ xs.size) {v : Value} (hp : partOf b ((xs.toList.drop off).take (if b then n else 1)) = some v) (w : World) :
    ∃ u, (part t ys off).run P w = .ok u w ∧ VRel P w0.heap.size μ v u := by
  obtain ⟨d, i, hu, hi, hd, hn⟩ := tyAgg_eq ht
  simp only [part, Sem.run_bind, run_agg hu, Result.andThen_ok, hd]
  cases b with
  | true =>
    simp only [if_true] at hle hp
    simp only [partOf, if_true, Option.some.injEq] at hp
    subst hp
    simp only [if_true, Sem.run_bind, run_size hi, Result.andThen_ok, Sem.run_pure, hn]
    have he : ys.extract off (off + n) = ((ys.toList.drop off).take n).toArray := by
      apply Array.ext'
      simp [Array.toList_extract, List.extract_eq_take_drop]
    rw [he]
    refine ⟨_, rfl, rel_list (by simp [hs]) ?_ ?_⟩
    · intro j x y hx hy
      rw [List.getElem?_take] at hx hy
      split at hx
      · rename_i hj
        rw [if_pos hj, List.getElem?_drop] at hy
        rw [List.getElem?_drop] at hx
        exact hr _ _ _ (by simpa using hx) (by simpa using hy)
      · cases hx
    · intro x hx
      have := List.mem_of_mem_drop (List.mem_of_mem_take hx)
      obtain ⟨k, hk⟩ := List.mem_iff_getElem?.1 this
      exact h1 k x (by simpa using hk)
  | false =>
    simp only [Bool.false_eq_true, if_false] at hle hp ⊢
    have hx : off < xs.size := by omega
    have hy : off < ys.size := by omega
    simp only [partOf, Bool.false_eq_true, if_false] at hp
    have : (xs.toList.drop off).take 1 = [xs[off]] := by
      rw [List.take_one, List.head?_drop]; simp [hx]
    rw [this] at hp
    simp only [Option.some.injEq] at hp
    subst hp
    simp only [Array.getElem?_eq_getElem hy, Sem.run_pure]
    exact ⟨_, rfl, hr off _ _ (by simp [hx]) (by simp [hy])⟩

theorem rel_add {μ : Mp} {a : Addr} {v' : Value} (h : VRel P w0.heap.size μ (.pointer (some a)) v') (n : Nat) :
    ∃ a', v' = .pointer (some a') ∧ VRel P w0.heap.size μ (.pointer (some (a.add n))) (.pointer (some (a'.add n))) := by
  rcases h.ptr_inv with ⟨rfl, hb⟩ | ⟨m, hm, hsp, rfl⟩
  · refine ⟨a, rfl, .oldPtr _ ?_⟩
    unfold Addr.add; split <;> exact hb
  · refine ⟨_, rfl, ?_⟩
    obtain ⟨b, o, s⟩ := a
    simp only at hsp hm; subst hsp
    rw [addr_add, addr_add]
    have := VRel.ptr (P := P) (n0 := w0.heap.size) b (o + n) m hm
    rw [← Nat.add_assoc] at this
    exact this

theorem slice_inv {μ : Mp} {a : Addr} {n c : Nat} {v' : Value} (h : VRel P w0.heap.size μ (.slice (some a) n c) v') :
    ∃ a' c', v' = .slice (some a') n c' ∧ (0 < n → VRel P w0.heap.size μ (.pointer (some a)) (.pointer (some a'))) := by
  cases h with
  | atom _ h => simp [V.atom] at h
  | oldSlice _ _ _ h => exact ⟨_, _, rfl, fun _ => .oldPtr _ h⟩
  | slice b o _ _ c' m hm h1 h2 => exact ⟨_, _, rfl, fun _ => .ptr b o m hm⟩
  | sliceE _ _ a' _ _ _ => exact ⟨_, _, rfl, fun h => absurd h (Nat.lt_irrefl 0)⟩

/-! ### Slicing -/

theorem bounds_run {n c : Nat} {lo hi : Option Value} {l h : Int} (hlo : lowOf lo = some l) (hhi : highOf n hi = some h) (h0 : 0 ≤ l) (h1 : l ≤ h) (h2 : h ≤ n) (hc : n ≤ c) (w : World) :
    (Instr.sliceBounds true n c lo hi none).run P w = .ok (l.toNat, h.toNat, c) w := by
  have low : ∀ (k : IntKind), (Instr.sliceBound (.int k l) h.toNat .sliceB).run P w = .ok l.toNat w := by
    intro k
    have hq : 0 ≤ l ∧ l ≤ (h.toNat : Int) := by omega
    simp only [Instr.sliceBound, asIntOf, pure_bind]
    rw [if_pos hq]; rfl
  have high : ∀ (k : IntKind), (Instr.sliceBound (.int k h) c .sliceAcap).run P w = .ok h.toNat w := by
    intro k
    have hq : 0 ≤ h ∧ h ≤ (c : Int) := by omega
    simp only [Instr.sliceBound, asIntOf, pure_bind]
    rw [if_pos hq]; rfl
  cases hi with
  | none =>
    simp [highOf] at hhi; subst hhi
    cases lo with
    | none => simp [lowOf] at hlo; subst hlo; simp [Instr.sliceBounds]
    | some v =>
      cases v <;> simp [lowOf] at hlo
      subst hlo
      have := low ‹_›
      simp [Instr.sliceBounds] at this ⊢
      rw [this]; simp
  | some v =>
    cases v <;> simp [highOf] at hhi
    subst hhi
    have hh := high ‹_›
    cases lo with
    | none => simp [lowOf] at hlo; subst hlo; simp [Instr.sliceBounds, hh]
    | some v =>
      cases v <;> simp [lowOf] at hlo
      subst hlo
      simp [Instr.sliceBounds, hh, low]

theorem lowOf_rel {μ : Mp} {lo : Option Value} {l : Int} (h : lowOf lo = some l) {lo' : Option Value} (hr : ∀ v, lo = some v → ∃ v', lo' = some v' ∧ VRel P w0.heap.size μ v v') (hn : lo = none → lo' = none) : lowOf lo' = some l := by
  cases lo with
  | none => rw [hn rfl]; exact h
  | some v =>
    obtain ⟨v', rfl, hv⟩ := hr v rfl
    cases v <;> simp [lowOf] at h
    rw [hv.int_eq]; simp [lowOf, h]

theorem highOf_rel {μ : Mp} {n : Nat} {lo : Option Value} {l : Int} (h : highOf n lo = some l) {lo' : Option Value} (hr : ∀ v, lo = some v → ∃ v', lo' = some v' ∧ VRel P w0.heap.size μ v v') (hn : lo = none → lo' = none) : highOf n lo' = some l := by
  cases lo with
  | none => rw [hn rfl]; exact h
  | some v =>
    obtain ⟨v', rfl, hv⟩ := hr v rfl
    cases v <;> simp [highOf] at h
    rw [hv.int_eq]; simp [highOf, h]

theorem slice_sound {μ : Mp} (hmu : ∀ b m, μ b = some m → w0.heap.size ≤ b) {t e : TypeId} {i : TypeInfo} (hu : P.underlying t = some (.slice e)) (hi : P.info? e = some i) {v v' u : Value} (hv : VRel P w0.heap.size μ v v')
    {lo hi' lo' hi'' : Option Value} (hs : sliceV w0.heap.size i.size v lo hi' = some u)
    (hlr : ∀ v, lo = some v → ∃ v', lo' = some v' ∧ VRel P w0.heap.size μ v v') (hln : lo = none → lo' = none)
    (hhr : ∀ v, hi' = some v → ∃ v', hi'' = some v' ∧ VRel P w0.heap.size μ v v') (hhn : hi' = none → hi'' = none) (w : World) :
    ∃ u', (Instr.sliceAt t v' lo' hi'' none).run P w = .ok u' w ∧ VRel P w0.heap.size μ u u' := by
  unfold sliceV at hs
  split at hs
  · rename_i a n c l hlo
    have hlo' := lowOf_rel hlo hlr hln
    split at hs
    · rename_i h hhi
      have hhi' := highOf_rel hhi hhr hhn
      split at hs
      · rename_i hb
        obtain ⟨h0, h1, h2⟩ := hb
        have run : ∀ (a' : Option Addr) (c' : Nat), n ≤ c' → (Instr.sliceAt t (.slice a' n c') lo' hi'' none).run P w =
            .ok (.slice (if c' = l.toNat then a' else a'.map (·.add (l.toNat * i.size))) (h.toNat - l.toNat) (c' - l.toNat)) w := by
          intro a' c' hc
          simp only [Instr.sliceAt, Sem.run_bind, run_underlying hu, Result.andThen_ok, Instr.slice, bounds_run hlo' hhi' h0 h1 h2 hc, run_size hi, Sem.run_pure]
        cases a with
        | none =>
          simp only at hs
          split at hs
          · rename_i hnc
            cases hs
            cases hv with
            | atom _ _ =>
              refine ⟨_, run none c hnc, ?_⟩
              have : (if c = l.toNat then (none : Option Addr) else (none : Option Addr).map (·.add (l.toNat * i.size))) = none := by split <;> rfl
              rw [this]
              exact .atom _ rfl
          · cases hs
        | some a =>
          simp only at hs
          split at hs
          · rename_i hblk
            split at hs
            · rename_i hnc
              cases hs
              cases hv with
              | atom _ hh => simp [V.atom] at hh
              | oldSlice _ _ _ _ =>
                refine ⟨_, run (some a) c hnc, ?_⟩
                have hb' : ∀ k, (a.add k).block = a.block := by intro k; unfold Addr.add; split <;> rfl
                split
                · exact .oldSlice _ _ _ hblk
                · exact .oldSlice _ _ _ (by rw [hb']; exact hblk)
              | slice b o _ _ c' m hm hn' hroom =>
                exact absurd hblk (by have := hmu _ _ hm; simp only; omega)
              | sliceE b o a' _ m hm =>
                exact absurd hblk (by have := hmu _ _ hm; simp only; omega)
            · cases hs
          · rename_i hblk
            cases hs
            cases hv with
            | atom _ hh => simp [V.atom] at hh
            | oldSlice _ _ _ hh => exact absurd hh hblk
            | slice b o _ _ c' m hm hn' hroom =>
              refine ⟨_, run _ c' hn', ?_⟩
              by_cases hcl : c' = l.toNat
              · have : h.toNat - l.toNat = 0 := by omega
                rw [if_pos hcl, this, hcl, Nat.sub_self]
                exact .sliceE _ _ _ _ _ hm
              · rw [if_neg hcl]
                simp only [Option.map_some, addr_add]
                have key := VRel.slice (P := P) (n0 := w0.heap.size) (μ := μ) b (o + l.toNat * i.size) (h.toNat - l.toNat) (if c = i.size then i.size else 0) (c' - l.toNat) m hm (by omega) ?_
                · rw [← Nat.add_assoc] at key; exact key
                · intro hne
                  split at hne
                  · rename_i hci
                    rw [if_pos hci]
                    obtain ⟨r1, r2⟩ := hroom (by omega)
                    refine ⟨by omega, ?_⟩
                    have e1 : c' = l.toNat + (c' - l.toNat) := by omega
                    rw [hci, e1, Nat.add_mul] at r2
                    omega
                  · exact absurd rfl hne
            | sliceE b o a' _ m hm =>
              have hl0 : l = 0 := by omega
              have hh0 : h = 0 := by omega
              subst hl0; subst hh0
              exact ⟨_, run (some a') 0 (Nat.le_refl _), .sliceE _ _ _ _ _ hm⟩
      · cases hs
    · cases hs
  · cases hs

/-! ### Building -/

/-- Rows of cells that are alike. -/
structure RelC (P : Program) (n0 : Nat) (μ : Mp) (xs ys : List Value) : Prop where
  len : xs.length = ys.length
  rel : ∀ (j : Nat) (x y : Value), xs[j]? = some x → ys[j]? = some y → VRel P n0 μ x y
  one : ∀ v ∈ xs, v.oneCell' = true

theorem RelC.ext {n0 : Nat} {μ μ' : Mp} (he : Ext μ μ') {xs ys : List Value} (h : RelC P n0 μ xs ys) : RelC P n0 μ' xs ys :=
  ⟨h.len, fun j x y hx hy => (h.rel j x y hx hy).ext he, h.one⟩
theorem RelC.append {n0 : Nat} {μ : Mp} {xs ys xs' ys' : List Value} (h : RelC P n0 μ xs ys) (h' : RelC P n0 μ xs' ys') : RelC P n0 μ (xs ++ xs') (ys ++ ys') := by
  refine ⟨by simp [h.len, h'.len], ?_, ?_⟩
  · intro j x y hx hy
    rw [List.getElem?_append] at hx hy
    rw [← h.len] at hy
    split at hx
    · rename_i hj
      rw [if_pos hj] at hy
      exact h.rel _ _ _ hx hy
    · rename_i hj
      rw [if_neg hj] at hy
      exact h'.rel _ _ _ hx hy
  · intro v hv
    rcases List.mem_append.1 hv with hv | hv
    · exact h.one v hv
    · exact h'.one v hv
theorem RelC.take {n0 : Nat} {μ : Mp} {xs ys : List Value} (h : RelC P n0 μ xs ys) (n : Nat) : RelC P n0 μ (xs.take n) (ys.take n) := by
  refine ⟨by simp [h.len], ?_, fun v hv => h.one v (List.mem_of_mem_take hv)⟩
  intro j x y hx hy
  rw [List.getElem?_take] at hx hy
  split at hx
  · rename_i hj; rw [if_pos hj] at hy; exact h.rel _ _ _ hx hy
  · cases hx
theorem RelC.drop {n0 : Nat} {μ : Mp} {xs ys : List Value} (h : RelC P n0 μ xs ys) (n : Nat) : RelC P n0 μ (xs.drop n) (ys.drop n) := by
  refine ⟨by simp [h.len], ?_, fun v hv => h.one v (List.mem_of_mem_drop hv)⟩
  intro j x y hx hy
  rw [List.getElem?_drop] at hx hy
  exact h.rel _ _ _ hx hy
theorem RelC.agg {μ : Mp} {xs ys : List Value} (h : RelC P w0.heap.size μ xs ys) : VRel P w0.heap.size μ (.agg xs.toArray) (.agg ys.toArray) :=
  rel_list h.len h.rel h.one
theorem RelC.one_of {n0 : Nat} {μ : Mp} {xs ys : List Value} (h : RelC P n0 μ xs ys) : ∀ v ∈ ys, v.oneCell' = true := by
  intro v hv
  obtain ⟨j, hj⟩ := List.mem_iff_getElem?.1 hv
  have hlt : j < xs.length := by rw [h.len]; exact (List.getElem?_eq_some_iff.1 hj).1
  rw [(h.rel j xs[j] v (by simp [hlt]) hj).oneCell]
  exact h.one _ (List.getElem_mem _)

theorem cellsQ_rel {n0 : Nat} {μ : Mp} {v v' : Value} (h : VRel P n0 μ v v') {cs : List Value} (hc : cellsQ v = some cs) : RelC P n0 μ cs v'.cells.toList := by
  have single : ∀ {x y : Value}, VRel P n0 μ x y → x.oneCell' = true → RelC P n0 μ [x] [y] := by
    intro x y hxy h1
    refine ⟨rfl, ?_, by simpa using h1⟩
    intro j a b ha hb
    cases j with
    | zero => simp at ha hb; subst ha; subst hb; exact hxy
    | succ j => simp at ha
  have h0 := h
  cases h with
  | agg xs ys hs hr h1 =>
    cases hc
    exact ⟨by simpa [Value.cells] using hs, fun j x y hx hy => hr j x y (by simpa using hx) (by simpa [Value.cells] using hy), fun v hv => by
      obtain ⟨j, hj⟩ := List.mem_iff_getElem?.1 hv
      exact h1 j v (by simpa using hj)⟩
  | tuple xs ys hs hr => cases hc
  | atom v ha =>
    cases v <;> first | (simp [V.atom] at ha; done) | (cases hc; exact single h0 rfl)
  | _ => cases hc; exact single h0 rfl

theorem fold_set (off : Nat) : ∀ (v : List Value) (j : Nat) (cs : Array Value), off + j + v.length ≤ cs.size →
    (v.zipIdx j).foldl (fun (cs : Array Value) (p : Value × Nat) => cs.setIfInBounds (off + p.2) p.1) cs =
      (cs.toList.take (off + j) ++ v ++ cs.toList.drop (off + j + v.length)).toArray := by
  intro v
  induction v with
  | nil => intro j cs h; simp
  | cons x v ih =>
    intro j cs h
    simp only [List.length_cons] at h
    simp only [List.zipIdx_cons, List.foldl_cons]
    rw [ih (j + 1) _ (by simp; omega)]
    congr 1
    have hlt : off + j < cs.toList.length := by simp; omega
    simp only [Array.toList_setIfInBounds]
    apply List.ext_getElem?
    intro k
    simp only [List.getElem?_append, List.length_append, List.length_take, List.length_set, List.getElem?_take, List.getElem?_drop, List.getElem?_set, List.getElem?_cons, List.length_cons, Array.length_toList, Array.getElem?_toList]
    simp only [Array.length_toList] at hlt
    have e1 : min (off + (j + 1)) cs.size = off + j + 1 := by omega
    have e2 : min (off + j) cs.size = off + j := by omega
    rw [e1, e2]
    by_cases c1 : k < off + j
    · have : off + j ≠ k := by omega
      simp [c1, show k < off + j + 1 + v.length by omega, show k < off + j + 1 by omega, show k < off + (j + 1) by omega, this, show k < off + j + (v.length + 1) by omega]
    · by_cases c2 : k = off + j
      · subst c2
        simp [hlt, show off + j < off + j + 1 + v.length by omega, show off + j < off + (j + 1) by omega]
      · by_cases c3 : k < off + j + 1 + v.length
        · have e3 : k - (off + j) ≠ 0 := by omega
          simp [c3, c1, show ¬ k < off + j + 1 by omega, show k < off + j + (v.length + 1) by omega, e3, show k - (off + j + 1) = k - (off + j) - 1 by omega]
        · simp [c3, show ¬ k < off + j + (v.length + 1) by omega]
          have e4 : off + (j + 1) + v.length + (k - (off + j + 1 + v.length)) = off + j + (v.length + 1) + (k - (off + j + (v.length + 1))) := by omega
          have e5 : off + j ≠ off + j + (v.length + 1) + (k - (off + j + (v.length + 1))) := by omega
          rw [e4]
          simp [e5]

theorem fill_rel {n0 : Nat} {μ : Mp} (tab : List (Nat × Nat)) : ∀ (l : List (Nat × List Value)) (l' : List (Nat × Value)) (cs cs' : List Value),
    l.length = l'.length → (∀ (j : Nat) (x : Nat × List Value) (y : Nat × Value), l[j]? = some x → l'[j]? = some y → x.1 = y.1 ∧ RelC P n0 μ x.2 y.2.cells.toList) →
    RelC P n0 μ cs cs' → ∀ r, fillL tab cs l = some r → ∃ r', Instr.fill (tab[·]?) cs'.toArray l' = some r'.toArray ∧ RelC P n0 μ r r' := by
  intro l
  induction l with
  | nil =>
    intro l' cs cs' hl _ hc r hr
    match l', hl with
    | [], _ =>
      simp only [fillL, Option.some.injEq] at hr
      subst hr
      exact ⟨cs', rfl, hc⟩
  | cons x l ih =>
    intro l' cs cs' hl hrel hc r hr
    match l', hl with
    | y :: l', hl =>
      obtain ⟨i, v⟩ := x
      obtain ⟨i', v'⟩ := y
      obtain ⟨e1, e2⟩ := hrel 0 _ _ rfl rfl
      simp only at e1 e2
      subst e1
      simp only [fillL] at hr
      simp only [Instr.fill]
      cases hp : tab[i]? with
      | none => simp [hp] at hr
      | some q =>
        obtain ⟨off, size⟩ := q
        simp only [hp] at hr ⊢
        split at hr
        · rename_i hcond
          obtain ⟨c1, c2⟩ := hcond
          have hv : v'.cells.size = size := by rw [← c1, e2.len]; simp
          have hsz : cs'.length = cs.length := hc.len.symm
          have hnot : (decide (v'.cells.size ≠ size) || decide (off + v'.cells.size > cs'.toArray.size)) = false := by
            simp [hv, hsz]; omega
          rw [if_neg (by rw [hnot]; simp)]
          have hf := fold_set off v'.cells.toList 0 cs'.toArray (by simp [hv, hsz]; omega)
          have hf' : v'.cells.zipIdx.foldl (fun cs x => match x with | (c, j) => cs.setIfInBounds (off + j) c) cs'.toArray =
              (cs'.take off ++ v'.cells.toList ++ cs'.drop (off + size)).toArray := by
            rw [← Array.foldl_toList, Array.toList_zipIdx]
            simpa [hv] using hf
          rw [hf']
          refine ih l' _ _ (by simpa using hl) (fun j a b ha hb => hrel (j + 1) a b (by simpa using ha) (by simpa using hb)) ?_ r hr
          exact ((hc.take off).append e2).append (hc.drop _)
        · cases hr

end
end Go.Proofs.Ytnndjlgkhfinjaa.V
