/-
  The abstract semantics 'V', part 4: the model's light operations, one by one.
-/
import Derived.Test.YtnndjlgkhfinjaaV3
set_option linter.all false
set_option linter.unusedSimpArgs false
set_option linter.unusedVariables false
set_option linter.unnecessarySimpa false
namespace Go.Proofs.Ytnndjlgkhfinjaa.V
open Go Go.RowKit

section
variable {P : Program} {w0 : World}

theorem fieldTab_run (w : World) : ∀ (l : List Field) (tab : List (Nat × Nat)), (l.mapM fun f => (P.info? f.type).map fun i => (f.offset, i.size)) = some tab →
    (l.mapM (fun f => do pure (f.offset, ← sizeOf f.type) : Field → Sem (Nat × Nat))).run P w = .ok tab w := by
  intro l
  induction l with
  | nil => intro tab h; simp only [List.mapM_nil] at h ⊢; cases h; rfl
  | cons f l ih =>
    intro tab h
    simp only [List.mapM_cons] at h ⊢
    cases hi : P.info? f.type with
    | none => simp [hi] at h
    | some i =>
      simp only [hi, Option.map_some, Option.bind_eq_bind, Option.bind_some] at h
      cases hl : (l.mapM fun f => (P.info? f.type).map fun i => (f.offset, i.size)) with
      | none => simp [hl] at h
      | some tab' =>
        simp only [hl, Option.bind_some] at h
        cases h
        have := ih tab' hl
        simp only [Sem.run_bind, run_size hi, Result.andThen_ok, Sem.run_pure, this]

theorem build_run {t : TypeId} {fs : Array Field} {tab : List (Nat × Nat)} {z : Value} (hu : P.underlying t = some (.struct fs)) (ht : fieldTab P fs = some tab)
    (hz : zeroOf P t = some z) (parts : Array (Nat × Value)) {cs : Array Value} (hf : Instr.fill (tab[·]?) z.cells parts.toList = some cs) (w : World) :
    (Instr.build t parts).run P w = .ok (.agg cs) w := by
  have hm : (fs.mapM (fun f => do pure (f.offset, ← sizeOf f.type) : Field → Sem (Nat × Nat))).run P w = .ok tab.toArray w := by
    rw [Array.mapM_eq_mapM_toList]
    simp only [Sem.run_map]
    rw [fieldTab_run w fs.toList tab ht]
    rfl
  simp only [Instr.build, Sem.run_bind, run_zero hz, Result.andThen_ok, run_underlying hu, hm]
  have : (fun (i : Nat) => tab.toArray[i]?) = (fun (i : Nat) => tab[i]?) := by funext i; simp
  rw [this, hf]
  rfl

theorem evalParts_rel {μ : Mp} {env : Env} {a : Act} : ∀ (parts : List (Nat × Operand)) (l : List (Nat × List Value)),
    (∀ p ∈ parts, ∀ u, evalO env p.2 = some u → VRel P w0.heap.size μ u (a.eval p.2)) → evalParts env parts = some l →
    l.length = (parts.map fun p => (p.1, a.eval p.2)).length ∧
    ∀ (j : Nat) (x : Nat × List Value) (y : Nat × Value), l[j]? = some x → (parts.map fun p => (p.1, a.eval p.2))[j]? = some y → x.1 = y.1 ∧ RelC P w0.heap.size μ x.2 y.2.cells.toList := by
  intro parts
  induction parts with
  | nil => intro l _ h; cases h; exact ⟨rfl, by simp⟩
  | cons p parts ih =>
    intro l hr h
    obtain ⟨i, x⟩ := p
    simp only [evalParts] at h
    cases he : evalO env x with
    | none => simp [he] at h
    | some v =>
      cases hq : cellsQ v with
      | none => simp [he, hq] at h
      | some cs =>
        cases hl : evalParts env parts with
        | none => simp [he, hq, hl] at h
        | some l' =>
          simp only [he, hq, hl, Option.bind_some] at h
          cases h
          obtain ⟨i1, i2⟩ := ih l' (fun p hp => hr p (List.mem_cons_of_mem _ hp)) hl
          refine ⟨by simpa using i1, ?_⟩
          intro j x' y hx hy
          cases j with
          | zero =>
            simp at hx hy; subst hx; subst hy
            exact ⟨rfl, cellsQ_rel (hr (i, x) (List.mem_cons_self ..) v he) hq⟩
          | succ j => exact i2 j x' y (by simpa using hx) (by simpa using hy)

theorem relC_flat {n0 : Nat} {μ : Mp} {z : Value} (hz : flatV z = true) (ht : ∀ vs, z ≠ .tuple vs) : RelC P n0 μ (cellsL z) z.cells.toList := by
  have h := VRel.flat (P := P) (n0 := n0) (μ := μ) hz
  have hq : cellsQ z = some (cellsL z) := by
    cases z <;> first | rfl | exact absurd rfl (ht _)
  exact cellsQ_rel h hq


theorem keyCmp_now {str : Bool} {d : TypeDesc} (hd : (str = true ∧ d = .string) ∨ (str = false ∧ ∃ i, d = .int i)) {k e : Value} {b : Bool} (h : keyCmp str k e = some b) :
    Instr.sameNow d k e = some b := by
  cases k <;> cases e <;> simp only [keyCmp] at h <;> try (cases h; done)
  · split at h
    · rename_i hc
      obtain ⟨h1, rfl⟩ := hc
      rcases hd with ⟨h2, _⟩ | ⟨_, i, rfl⟩
      · rw [h1] at h2; cases h2
      · simpa [Instr.sameNow] using h
    · cases h
  · split at h
    · rename_i hc
      rcases hd with ⟨_, rfl⟩ | ⟨h2, _⟩
      · simpa [Instr.sameNow] using h
      · rw [hc] at h2; cases h2
    · cases h

theorem findD_now {str : Bool} {d : TypeDesc} (hd : (str = true ∧ d = .string) ∨ (str = false ∧ ∃ i, d = .int i)) {k : Value} {μ : Mp} :
    ∀ (es : List (Value × Value)) (arr : List MapEntry) (i : Nat), arr.length = es.length →
    (∀ (j : Nat) (k v : Value), es[j]? = some (k, v) → ∃ e : MapEntry, arr[j]? = some e ∧ e.key = k ∧ VRel P w0.heap.size μ v e.val) → ∀ r, findD str k es i = some r →
    match r with
    | none => Instr.findNow d k arr i = some none
    | some (j, v) => ∃ v', Instr.findNow d k arr i = some (some (j, v')) ∧ VRel P w0.heap.size μ v v' ∧ i ≤ j ∧ j < i + es.length := by
  intro es
  induction es with
  | nil =>
    intro arr i hl _ r hr
    match arr, hl with
    | [], _ => cases hr; rfl
  | cons e es ih =>
    intro arr i hl hrel r hr
    match arr, hl with
    | a :: arr, hl =>
      obtain ⟨key, val⟩ := e
      obtain ⟨a', ha, hk, hv⟩ := hrel 0 key val rfl
      simp at ha; subst ha
      simp only [findD] at hr
      cases hc : keyCmp str k key with
      | none => simp [hc] at hr
      | some b =>
        have hs := keyCmp_now hd hc
        rw [← hk] at hs
        cases b with
        | true =>
          simp only [hc, Option.some.injEq] at hr
          subst hr
          exact ⟨_, by simp only [Instr.findNow, hs], hv, Nat.le_refl _, by simp⟩
        | false =>
          simp only [hc] at hr
          have := ih arr (i + 1) (by simpa using hl) (fun j k v hj => hrel (j + 1) k v (by simpa using hj)) r hr
          cases r with
          | none => simpa only [Instr.findNow, hs] using this
          | some q =>
            obtain ⟨j, v⟩ := q
            obtain ⟨v', h1, h2, h3, h4⟩ := this
            exact ⟨v', by simpa only [Instr.findNow, hs] using h1, h2, by omega, by simp; omega⟩

theorem bytes_run (f : Value → ByteArray → Sem (ForInStep ByteArray)) (hf : ∀ n s, f (.int .u8 n) s = pure (ForInStep.yield (s.push (UInt8.ofNat n.toNat)))) (w : World) :
    ∀ (cs : List Value) (s : ByteArray), cs.all (fun c => match c with | .int .u8 _ => true | _ => false) = true →
    (forIn cs s f).run P w = .ok ⟨s.data ++ (cs.map fun c => match c with | .int _ q => UInt8.ofNat q.toNat | _ => 0).toArray⟩ w := by
  intro cs
  induction cs with
  | nil => intro s _; simp
  | cons c cs ih =>
    intro s h
    simp only [List.all_cons, Bool.and_eq_true] at h
    obtain ⟨h1, h2⟩ := h
    cases c with
    | int k q =>
      cases k <;> simp at h1
      simp only [List.forIn_cons, hf]
      have := ih (s.push (UInt8.ofNat q.toNat)) h2
      simp only [Sem.run_bind, Sem.run_pure, Result.andThen_ok]
      rw [this]
      congr 1
      apply ByteArray.ext
      simp [ByteArray.push]
    | _ => simp at h1

/-- A light operation of the model gives what the abstract one gives, and leaves the world alone. -/
theorem light_sound {o : Oper} {l : LOp} (hc : copL P o.op = some l) {env : Env} {st : St} {v : Value} (he : l.eval P w0 env st = some v)
    {μ : Mp} {w : World} {a : Act} (hs : Sim P w0 μ st w) (hr : ∀ x ∈ o.op.operands.toList, ∀ u, evalO env x = some u → VRel P w0.heap.size μ u (a.eval x)) :
    ∃ v', (execOp a.eval o).run P w = .ok (.value v') w ∧ VRel P w0.heap.size μ v v' := by
  obtain ⟨dst, op, type, pos, after, guard⟩ := o
  simp only at hc hr
  have val : ∀ (s : Sem Value) (v' : Value), s.run P w = .ok v' w → (do pure (Next.value (← s)) : Sem Next).run P w = .ok (.value v') w := by
    intro s v' h; simp [h]
  cases op with
  | move x =>
    cases hc
    exact ⟨_, rfl, hr x (by simp [Op.operands]) v he⟩
  | assign x =>
    cases hc
    exact ⟨_, rfl, hr x (by simp [Op.operands]) v he⟩
  | pick c x y =>
    cases hc
    simp only [LOp.eval] at he
    split at he
    · rename_i t ht
      have h1 := (hr c (by simp [Op.operands]) _ ht).bool_eq
      cases t with
      | true =>
        refine ⟨a.eval x, by simp [execOp, h1, asBool], hr x (by simp [Op.operands]) v (by simpa using he)⟩
      | false =>
        refine ⟨a.eval y, by simp [execOp, h1, asBool], hr y (by simp [Op.operands]) v (by simpa using he)⟩
    · cases he
  | binOp op t x y yt =>
    simp only [copL] at hc
    split at hc
    · rename_i e hu
      have key : ∀ neg : Bool, (∀ (p q : Option Addr), (p.isSome && q.isSome) = false → (do eqGuard op t x y (.pointer p) (.pointer q); binOp op t (.pointer p) (.pointer q) : Sem Value).run P w =
            .ok (.bool (neg ^^ (p.isNone && q.isNone))) w) → some (LOp.eqp neg x y) = some l →
          ∃ v', (execOp a.eval ⟨dst, .binOp op t x y yt, type, pos, after, guard⟩).run P w = .ok (.value v') w ∧ VRel P w0.heap.size μ v v' := by
        intro neg hrun hcc
        cases hcc
        simp only [LOp.eval] at he
        split at he
        · rename_i p q hp hq
          split at he
          · cases he
          · rename_i hpq
            cases he
            have h1 := hr x (by simp [Op.operands]) _ hp
            have h2 := hr y (by simp [Op.operands]) _ hq
            have side : ∀ {p : Option Addr} {z : Value}, VRel P w0.heap.size μ (.pointer p) z → ∃ p', z = .pointer p' ∧ p'.isSome = p.isSome ∧ p'.isNone = p.isNone := by
              intro p z h
              cases h with
              | atom _ h => cases p with | none => exact ⟨none, rfl, rfl, rfl⟩ | some _ => simp [V.atom] at h
              | oldPtr _ _ => exact ⟨_, rfl, rfl, rfl⟩
              | ptr _ _ _ _ => exact ⟨_, rfl, rfl, rfl⟩
            obtain ⟨p', e1, s1, n1⟩ := side h1
            obtain ⟨q', e2, s2, n2⟩ := side h2
            refine ⟨.bool (neg ^^ (p'.isNone && q'.isNone)), ?_, by rw [n1, n2]; exact .atom _ rfl⟩
            have := hrun p' q' (by rw [s1, s2]; simpa using hpq)
            simp only [execOp, e1, e2]
            rw [Sem.run_bind, this]; rfl
        · cases he
      have eqrun : ∀ (p q : Option Addr), (p.isSome && q.isSome) = false → (Op.equal t (.pointer p) (.pointer q)).run P w = .ok (p.isNone && q.isNone) w := by
        intro p q h
        rw [show Op.equal t (.pointer p) (.pointer q) = Op.equalIn (9999 + 1) t (.pointer p) (.pointer q) from rfl, Op.equalIn]
        simp only [Sem.run_bind, run_underlying hu, Result.andThen_ok]
        cases p <;> cases q <;> simp at h ⊢
      cases op <;> simp only at hc <;> try (cases hc; done)
      · refine key false (fun p q h => ?_) hc
        simp [eqGuard, binOp, eqrun p q h]
      · refine key true (fun p q h => ?_) hc
        simp [eqGuard, binOp, eqrun p q h]
    · cases hc
      simp only [LOp.eval] at he
      split at he
      · rename_i u1 u2 h1 h2
        split at he
        · rename_i hf
          simp only [Bool.and_eq_true] at hf
          have e1 := (hr x (by simp [Op.operands]) _ h1).flat_eq hf.1
          have e2 := (hr y (by simp [Op.operands]) _ h2).flat_eq hf.2
          obtain ⟨hrun, hfl⟩ := pureF_run he
          exact ⟨v, by simp only [execOp, e1, e2]; exact val _ _ (hrun w), VRel.flat hfl⟩
        · cases he
      · cases he
    · cases hc
  | unOp op t x =>
    cases hc
    simp only [LOp.eval] at he
    split at he
    · rename_i u1 h1
      split at he
      · rename_i hf
        have e1 := (hr x (by simp [Op.operands]) _ h1).flat_eq hf
        obtain ⟨hrun, hfl⟩ := pureF_run he
        exact ⟨v, by simp only [execOp, e1]; exact val _ _ (hrun w), VRel.flat hfl⟩
      · cases he
    · cases he
  | convert s d x =>
    simp only [copL] at hc
    have conv : some (LOp.conv s d x) = some l → ∃ v', (execOp a.eval ⟨dst, .convert s d x, type, pos, after, guard⟩).run P w = .ok (.value v') w ∧ VRel P w0.heap.size μ v v' := by
      intro hcc
      cases hcc
      simp only [LOp.eval] at he
      split at he
      · rename_i u1 h1
        split at he
        · rename_i hf
          have e1 := (hr x (by simp [Op.operands]) _ h1).flat_eq hf
          obtain ⟨hrun, hfl⟩ := pureF_run he
          exact ⟨v, by simp only [execOp, e1]; exact val _ _ (hrun w), VRel.flat hfl⟩
        · cases he
      · cases he
    split at hc
    · rename_i e hus hud
      split at hc
      · rename_i e' hus'
        split at hc
        · rename_i hue
          cases hc
          simp only [LOp.eval] at he
          have tostr : ∀ (u : Value) (b : ByteArray), (Conv.bytesToString u).run P w = .ok (.string b) w → (∀ b', u ≠ .string b') → (convert s d u).run P w = .ok (.string b) w := by
            intro u b hb hn
            rw [hus'] at hus
            cases u with
            | slice aa n c =>
              cases aa <;> simp [convert, run_underlying hus', run_underlying hud, run_underlying hue, hb]
            | string b' => exact absurd rfl (hn b')
            | _ => simp [Conv.bytesToString] at hb
          split at he
          · rename_i n c h1
            cases he
            have h := hr x (by simp [Op.operands]) _ h1
            have e1 : a.eval x = .slice none n c := h.atom_eq rfl
            refine ⟨.string .empty, ?_, .atom _ rfl⟩
            simp only [execOp, e1]
            exact val _ _ (tostr _ _ (by simp [Conv.bytesToString]) (by simp))
          · rename_i aa n c h1
            split at he
            · rename_i cs hcs
              split at he
              · rename_i hall
                cases he
                have h := hr x (by simp [Op.operands]) _ h1
                obtain ⟨a', c', e1, hp⟩ := slice_inv h
                refine ⟨_, ?_, .atom _ rfl⟩
                simp only [execOp, e1]
                refine val _ _ (tostr _ _ ?_ (by simp))
                simp only [Conv.bytesToString]
                cases n with
                | zero =>
                  have : cs = [] := by
                    unfold cellsAt at hcs
                    split at hcs
                    · split at hcs
                      · split at hcs
                        · split at hcs
                          · cases hcs; simp
                          · cases hcs
                        · cases hcs; simp
                      · cases hcs
                    · cases hcs
                  subst this
                  simp [loadCells, loadCellsFrom]
                  rfl
                | succ n =>
                  obtain ⟨a'', cs', e2, hl, hl', hcell, hrel, hone⟩ := cellsAt_sound hs (hp (by omega)) hcs
                  cases e2
                  have hrun := run_loadCells_list (P := P) w a' cs' hcell
                  have heq : cs' = cs := by
                    apply List.ext_getElem?
                    intro j
                    by_cases hj : j < n + 1
                    · have hj1 : j < cs.length := by omega
                      have hj2 : j < cs'.length := by omega
                      have hv := hrel j cs[j] cs'[j] (by simp [hj1]) (by simp [hj2])
                      have hat : V.atom cs[j] = true := by
                        have := List.all_eq_true.1 hall cs[j] (List.getElem_mem _)
                        revert this
                        cases cs[j] <;> simp [V.atom]
                      rw [List.getElem?_eq_getElem hj1, List.getElem?_eq_getElem hj2, hv.atom_eq hat]
                    · rw [List.getElem?_eq_none (by omega), List.getElem?_eq_none (by omega)]
                  rw [hl'] at hrun
                  simp only [Sem.run_bind, hrun, Result.andThen_ok, List.forIn_toArray, heq]
                  rw [bytes_run _ (fun n s => rfl) w cs .empty hall]
                  simp
                  intro c _
                  cases c <;> rfl
              · cases he
            · cases he
          · cases he
        · cases hc
      · cases hc
    · exact conv hc
    · exact conv hc
    · cases hc
  | index t x i =>
    cases hc
    simp only [LOp.eval] at he
    split at he
    · rename_i u1 u2 h1 h2
      split at he
      · rename_i hf
        simp only [Bool.and_eq_true] at hf
        have e1 := (hr x (by simp [Op.operands]) _ h1).flat_eq hf.1
        have e2 := (hr i (by simp [Op.operands]) _ h2).flat_eq hf.2
        obtain ⟨hrun, hfl⟩ := pureF_run he
        exact ⟨v, by simp only [execOp, e1, e2]; exact val _ _ (hrun w), VRel.flat hfl⟩
      · cases he
    · cases he
  | slice t x lo hi mx =>
    cases mx with
    | some _ => simp [copL] at hc
    | none =>
      have optrel : ∀ (y : Option Operand) (u : Option Value), evalOpt env y = some u → (∀ z, y = some z → z ∈ (Op.slice t x lo hi none).operands.toList) →
          (∀ v, u = some v → ∃ v', (y.map a.eval) = some v' ∧ VRel P w0.heap.size μ v v') ∧ (u = none → y.map a.eval = none) := by
        intro y u hy hmem
        cases y with
        | none => cases hy; exact ⟨by simp, by simp⟩
        | some z =>
          simp only [evalOpt] at hy
          cases hz : evalO env z with
          | none => simp [hz] at hy
          | some uz =>
            simp only [hz, Option.map_some, Option.some.injEq] at hy
            subst hy
            refine ⟨fun v hv => ?_, by simp⟩
            cases hv
            exact ⟨_, rfl, hr z (hmem z rfl) _ hz⟩
      have mlo : ∀ z, lo = some z → z ∈ (Op.slice t x lo hi none).operands.toList := by intro z hz; subst hz; simp [Op.operands]
      have mhi : ∀ z, hi = some z → z ∈ (Op.slice t x lo hi none).operands.toList := by intro z hz; subst hz; simp [Op.operands]
      simp only [copL] at hc
      split at hc
      · rename_i hu
        cases hc
        simp only [LOp.eval] at he
        split at he
        · rename_i u1 ul uh h1 hl hh
          split at he
          · rename_i hf
            simp only [Bool.and_eq_true] at hf
            have e1 := (hr x (by simp [Op.operands]) _ h1).flat_eq hf.1.1
            obtain ⟨l1, l2⟩ := optrel lo ul hl mlo
            obtain ⟨k1, k2⟩ := optrel hi uh hh mhi
            have el : lo.map a.eval = ul := by
              cases ul with
              | none => exact l2 rfl
              | some z => obtain ⟨z', e, hz⟩ := l1 z rfl; rw [e, hz.flat_eq (by simpa using hf.1.2)]
            have eh : hi.map a.eval = uh := by
              cases uh with
              | none => exact k2 rfl
              | some z => obtain ⟨z', e, hz⟩ := k1 z rfl; rw [e, hz.flat_eq (by simpa using hf.2)]
            obtain ⟨hrun, hfl⟩ := pureF_run he
            refine ⟨v, ?_, VRel.flat hfl⟩
            simp only [execOp, e1, el, eh]
            refine val _ _ ?_
            have : ∀ X, (Instr.sliceAt t X ul uh none).run P w = (Instr.slice t X ul uh none).run P w := by
              intro X; simp only [Instr.sliceAt, Sem.run_bind, run_underlying hu, Result.andThen_ok]
            simp only [Option.map_none, this, hrun]
          · cases he
        · cases he
      · rename_i e hu
        cases hi' : P.info? e with
        | none => simp [hi'] at hc
        | some inf =>
          simp only [hi', Option.map_some, Option.some.injEq] at hc
          subst hc
          simp only [LOp.eval] at he
          split at he
          · rename_i u1 ul uh h1 hl hh
            obtain ⟨l1, l2⟩ := optrel lo ul hl mlo
            obtain ⟨k1, k2⟩ := optrel hi uh hh mhi
            obtain ⟨u', hrun, hrel⟩ := slice_sound (w0 := w0) (fun b m h => (hs.lo b m h).1) hu hi' (hr x (by simp [Op.operands]) _ h1) he l1 l2 k1 k2 w
            exact ⟨u', by simp only [execOp]; exact val _ _ hrun, hrel⟩
          · cases he
      · rename_i n e hu
        cases lo with
        | some _ => simp at hc
        | none =>
          cases hi with
          | some _ => simp at hc
          | none =>
            cases hi' : P.info? e with
            | none => simp [hi'] at hc
            | some inf =>
              simp only [hi', Option.map_some, Option.some.injEq] at hc
              subst hc
              simp only [LOp.eval] at he
              split at he
              · rename_i ad h1
                split at he
                · cases he
                · rename_i hnb
                  cases he
                  have h := hr x (by simp [Op.operands]) _ h1
                  rcases h.ptr_inv with ⟨_, hb⟩ | ⟨m, hm, hsp, e1⟩
                  · exact absurd hb hnb
                  · refine ⟨.slice (some ⟨m.blk, m.base + ad.off, none⟩) n n, ?_, ?_⟩
                    · simp only [execOp, e1, Option.map_none]
                      refine val _ _ ?_
                      simp only [Instr.sliceAt, Sem.run_bind, run_underlying hu, Result.andThen_ok, Instr.sureAddr, pure_bind, Instr.sliceBounds, Option.isSome_none, Bool.false_eq_true, if_false,
                        run_size hi', Sem.run_pure, Nat.zero_mul, Nat.sub_zero, Addr.add, if_true]
                      split <;> rfl
                    · obtain ⟨b, o, s⟩ := ad
                      simp only at hsp hm; subst hsp
                      exact .slice b o n 0 n m hm (Nat.le_refl _) (fun h => absurd rfl h)
              · cases he
      · cases hc
  | nilCheck x =>
    cases hc
    simp only [LOp.eval] at he
    split at he
    · rename_i ad h1
      cases he
      have h := hr x (by simp [Op.operands]) _ h1
      rcases h.ptr_inv with ⟨e1, hb⟩ | ⟨m, hm, hsp, e1⟩
      · exact ⟨_, by simp only [execOp, e1]; rfl, by rw [e1] at h; exact h⟩
      · exact ⟨_, by simp only [execOp, e1]; rfl, by rw [e1] at h; exact h⟩
    · cases he
  | fieldAddr s x f =>
    simp only [copL] at hc
    split at hc
    · rename_i fs hu
      split at hc
      · rename_i fd hf
        split at hc
        · rename_i inf hi
          split at hc
          · cases hc
          · rename_i hsz
            cases hc
            simp only [LOp.eval] at he
            split at he
            · rename_i ad h1
              cases he
              obtain ⟨a', e1, hrel⟩ := rel_add (hr x (by simp [Op.operands]) _ h1) fd.offset
              refine ⟨_, ?_, hrel⟩
              simp only [execOp, e1]
              refine val _ _ ?_
              simp only [Instr.fieldAt, Sem.run_bind, run_underlying hu, Result.andThen_ok, hf, Instr.sureAddr, pure_bind, fieldPlace, run_size hi, if_neg hsz, Sem.run_pure]
            · cases he
        · cases hc
      · cases hc
    · cases hc
  | indexAddr t x i =>
    simp only [copL] at hc
    split at hc
    · rename_i e hu
      cases hi' : P.info? e with
      | none => simp [hi'] at hc
      | some inf =>
        simp only [hi', Option.map_some, Option.some.injEq] at hc
        subst hc
        simp only [LOp.eval] at he
        split at he
        · rename_i ad n c k q h1 h2
          split at he
          · rename_i hq
            cases he
            have h := hr x (by simp [Op.operands]) _ h1
            have e2 := (hr i (by simp [Op.operands]) _ h2).int_eq
            obtain ⟨a', c', e1, hp⟩ := slice_inv h
            obtain ⟨a'', e3, hrel⟩ := rel_add (hp (by omega)) (q.toNat * inf.size)
            cases e3
            refine ⟨_, ?_, hrel⟩
            simp only [execOp, e1, e2]
            refine val _ _ ?_
            simp only [Instr.indexAt, asIntOf, pure_bind, Sem.run_bind, run_underlying hu, Result.andThen_ok, Sem.run_pure, if_pos hq, run_size hi']
          · cases he
        · cases he
    · rename_i ln e hu
      cases hi' : P.info? e with
      | none => simp [hi'] at hc
      | some inf =>
        simp only [hi', Option.map_some, Option.some.injEq] at hc
        subst hc
        simp only [LOp.eval] at he
        split at he
        · rename_i ad k q h1 h2
          split at he
          · rename_i hq
            cases he
            have e2 := (hr i (by simp [Op.operands]) _ h2).int_eq
            obtain ⟨a', e1, hrel⟩ := rel_add (hr x (by simp [Op.operands]) _ h1) (q.toNat * inf.size)
            refine ⟨_, ?_, hrel⟩
            simp only [execOp, e1, e2]
            refine val _ _ ?_
            simp only [Instr.indexAt, asIntOf, pure_bind, Sem.run_bind, run_underlying hu, Result.andThen_ok, Instr.sureAddr, Sem.run_pure, if_pos hq, run_size hi']
          · cases he
        · cases he
    · cases hc
  | load t x =>
    simp only [copL] at hc
    cases ht : tyAgg P t with
    | none => simp [ht] at hc
    | some q =>
      obtain ⟨b, n⟩ := q
      simp only [ht, Option.map_some, Option.some.injEq] at hc
      subst hc
      simp only [LOp.eval] at he
      split at he
      · rename_i ad h1
        split at he
        · rename_i cs hcs
          obtain ⟨u, hrun, hrel⟩ := load_part hs (hr x (by simp [Op.operands]) _ h1) ht hcs he
          exact ⟨u, by simp only [execOp]; exact val _ _ hrun, hrel⟩
        · cases he
      · cases he
  | field t x f =>
    simp only [copL] at hc
    split at hc
    · rename_i fs hu
      split at hc
      · rename_i fd hf
        cases ht : tyAgg P fd.type with
        | none => simp [ht] at hc
        | some q =>
          obtain ⟨b, n⟩ := q
          simp only [ht, Option.map_some, Option.some.injEq] at hc
          subst hc
          simp only [LOp.eval] at he
          split at he
          · rename_i xs h1
            by_cases hle : fd.offset + (if b then n else 1) ≤ xs.size
            · rw [if_pos hle] at he
              obtain ⟨ys, e1, hsz, hrr, hone⟩ := (hr x (by simp [Op.operands]) _ h1).agg_inv
              obtain ⟨u, hrun, hrel⟩ := part_sound ht hsz hrr hone hle he w
              refine ⟨u, ?_, hrel⟩
              simp only [execOp, e1]
              refine val _ _ ?_
              simp only [Instr.field, Sem.run_bind, run_underlying hu, Result.andThen_ok, hf, asAgg, Sem.run_pure, hrun]
            · rw [if_neg hle] at he; cases he
          · cases he
      · cases hc
    · cases hc
  | extract x k =>
    cases hc
    simp only [LOp.eval] at he
    split at he
    · rename_i vs h1
      obtain ⟨ys, e1, hsz, hrr⟩ := (hr x (by simp [Op.operands]) _ h1).tuple_inv
      have hk : k < ys.size := by rw [← hsz]; exact (Array.getElem?_eq_some_iff.1 he).1
      refine ⟨ys[k], ?_, hrr k _ _ he (by simp [hk])⟩
      simp only [execOp, e1]
      refine val _ _ ?_
      simp [Instr.extract, hk]
    · cases he
  | build t parts =>
    simp only [copL] at hc
    split at hc
    · rename_i fs hu
      split at hc
      · rename_i tab z ht hz
        split at hc
        · rename_i hfz
          cases hc
          simp only [LOp.eval] at he
          split at he
          · rename_i pl hpl
            cases hfl : fillL tab z.toList pl with
            | none => simp [hfl] at he
            | some cs =>
              simp only [hfl, Option.map_some, Option.some.injEq] at he
              subst he
              obtain ⟨p1, p2⟩ := evalParts_rel (P := P) (w0 := w0) (μ := μ) (a := a) parts.toList pl (fun p hp => hr p.2 (by
                  simp only [Op.operands, List.mem_map]
                  exact ⟨p, hp, rfl⟩)) hpl
              obtain ⟨r', hr', hrel⟩ := fill_rel (P := P) (n0 := w0.heap.size) (μ := μ) tab pl _ z.toList z.toList p1 p2 (relC_flat (z := .agg z) hfz (by simp)) cs hfl
              refine ⟨_, ?_, hrel.agg⟩
              simp only [execOp]
              refine val _ _ (build_run hu ht hz _ ?_ w)
              simpa [Value.cells] using hr'
          · cases he
        · cases hc
      · cases hc
    · cases hc
  | makeInterface t x =>
    simp only [copL] at hc
    split at hc
    · cases hc
    · rename_i d hd hu
      cases hc
      simp only [LOp.eval] at he
      cases h1 : evalO env x with
      | none => simp [h1] at he
      | some u =>
        simp only [h1, Option.map_some, Option.some.injEq] at he
        subst he
        refine ⟨_, ?_, .iface t _ _ (hr x (by simp [Op.operands]) _ h1)⟩
        simp only [execOp]
        refine val _ _ ?_
        simp only [Instr.makeInterface, Sem.run_bind, run_underlying hu, Result.andThen_ok]
        rfl
    · cases hc
  | typeAssert x xt t ok =>
    cases ok with
    | false => simp [copL] at hc
    | true =>
      simp only [copL] at hc
      split at hc
      · cases hc
      · rename_i d hd hu
        split at hc
        · rename_i z hz
          split at hc
          · rename_i hfz
            cases hc
            simp only [LOp.eval] at he
            have run : ∀ (X V : Value), X ≠ .agg #[] → ((X = .nilIface ∧ V = .tuple #[z, .bool false]) ∨ ∃ u y, X = .iface u y ∧ V = (if u = t then .tuple #[y, .bool true] else .tuple #[z, .bool false])) →
                (Instr.typeAssert X xt t true).run P w = .ok V w := by
              intro X V _ h
              rcases h with ⟨rfl, rfl⟩ | ⟨u, y, rfl, rfl⟩
              · simp only [Instr.typeAssert, Sem.run_bind, run_underlying hu, Result.andThen_ok]
                cases d <;> first | exact absurd rfl (hd _) | simp [run_zero hz]
              · simp only [Instr.typeAssert, Sem.run_bind, run_underlying hu, Result.andThen_ok]
                by_cases hut : u = t
                · cases d <;> first | exact absurd rfl (hd _) | simp [hut]
                · cases d <;> first | exact absurd rfl (hd _) | simp [hut, run_zero hz]
            have zrel : VRel P w0.heap.size μ (.tuple #[z, .bool false]) (.tuple #[z, .bool false]) := by
              refine .tuple _ _ rfl ?_
              intro i x y hx hy
              rw [hx] at hy; cases hy
              match i, hx with
              | 0, hx => simp at hx; subst hx; exact VRel.flat hfz
              | 1, hx => simp at hx; subst hx; exact .atom _ rfl
            split at he
            · rename_i u y h1
              have h := hr x (by simp [Op.operands]) _ h1
              obtain ⟨y', e1, hy⟩ := h.iface_inv
              refine ⟨_, by simp only [execOp, e1]; exact val _ _ (run _ _ (by simp) (.inr ⟨u, y', rfl, rfl⟩)), ?_⟩
              split at he
              · rename_i hut
                cases he
                rw [if_pos hut]
                refine .tuple _ _ rfl ?_
                intro i a b ha hb
                match i, ha, hb with
                | 0, ha, hb => simp at ha hb; subst ha; subst hb; exact hy
                | 1, ha, hb => simp at ha hb; subst ha; subst hb; exact .atom _ rfl
              · rename_i hut
                cases he
                rw [if_neg hut]
                exact zrel
            · rename_i h1
              cases he
              have e1 : a.eval x = .nilIface := (hr x (by simp [Op.operands]) _ h1).atom_eq rfl
              exact ⟨_, by simp only [execOp, e1]; exact val _ _ (run _ _ (by simp) (.inl ⟨rfl, rfl⟩)), zrel⟩
            · cases he
          · cases hc
        · cases hc
      · cases hc
  | lookup t x i ok =>
    simp only [copL] at hc
    split at hc
    · rename_i kt et hu
      have main : ∀ (str : Bool) (z : Value) (d : TypeDesc), ((str = true ∧ d = .string) ∨ (str = false ∧ ∃ i, d = .int i)) → P.underlying kt = some d → zeroOf P et = some z → flatV z = true →
          LOp.look str z ok x i = l → ∃ v', (execOp a.eval ⟨dst, .lookup t x i ok, type, pos, after, guard⟩).run P w = .ok (.value v') w ∧ VRel P w0.heap.size μ v v' := by
        intro str z d hd hk hz hfz hl
        subst hl
        simp only [LOp.eval] at he
        split at he
        · rename_i m key h1 h2
          have hm := hr x (by simp [Op.operands]) _ h1
          have hkey := hr i (by simp [Op.operands]) _ h2
          split at he
          · rename_i es hes
            have hx : ∃ arr : Array MapEntry, arr.size = es.length ∧ (∀ (j : Nat) (k v : Value), es[j]? = some (k, v) → ∃ e : MapEntry, arr.toList[j]? = some e ∧ e.key = k ∧ VRel P w0.heap.size μ v e.val) ∧
                ((a.eval x = .map none ∧ arr = #[]) ∨ ∃ r clock, a.eval x = .map (some r) ∧ w.heap[r]? = some (.map arr clock)) := by
              cases m with
              | map q =>
                cases q with
                | none =>
                  simp only [Option.some.injEq] at hes
                  subst hes
                  have e1 : a.eval x = .map none := hm.atom_eq rfl
                  exact ⟨#[], rfl, by simp, .inl ⟨e1, rfl⟩⟩
                | some b =>
                  simp only at hes
                  split at hes
                  · rename_i es' hb
                    cases hes
                    obtain ⟨mm, e1, hmm⟩ := hm.map_inv
                    obtain ⟨arr, clock, hh, hsz, hrel⟩ := hs.maps _ _ _ hb hmm
                    refine ⟨arr, hsz, fun j k v hj => ?_, .inr ⟨_, clock, e1, hh⟩⟩
                    obtain ⟨_, e, he1, he2, he3⟩ := hrel j k v hj
                    exact ⟨e, by simpa using he1, he2, he3⟩
                  · cases hes
              | _ => simp at hes
            obtain ⟨arr, hsz, hrel, hrun⟩ := hx
            have hck : ∀ e X, (Instr.checkKey e 10000 kt X).run P w = .ok () w := by
              intro e X
              rw [show (10000 : Nat) = 9999 + 1 from rfl, Instr.checkKey]
              simp only [Sem.run_bind, run_underlying hk, Result.andThen_ok]
              rcases hd with ⟨_, rfl⟩ | ⟨_, j, rfl⟩ <;> rfl
            have keyflat : ∀ r, findD str key es 0 = some r → (∃ e, e ∈ es) → a.eval i = key := by
              intro r hr' ⟨e, hmem⟩
              have : V.atom key = true := by
                cases es with
                | nil => simp at hmem
                | cons e0 es =>
                  simp only [findD] at hr'
                  cases hc : keyCmp str key e0.1 with
                  | none => simp [hc] at hr'
                  | some b => cases key <;> first | rfl | simp [keyCmp] at hc
              exact hkey.atom_eq this
            cases hfd : findD str key es 0 with
            | none => simp [hfd] at he
            | some r =>
              have hnow : (r = none ∧ (Instr.findKey kt (a.eval i) arr.toList).run P w = .ok none w) ∨
                  ∃ j u u', r = some (j, u) ∧ (Instr.findKey kt (a.eval i) arr.toList).run P w = .ok (some (j, u')) w ∧ VRel P w0.heap.size μ u u' := by
                by_cases hes0 : ∃ e, e ∈ es
                · rw [keyflat r hfd hes0]
                  have h := findD_now (P := P) (w0 := w0) (μ := μ) hd es arr.toList 0 (by simpa using hsz) hrel r hfd
                  cases r with
                  | none =>
                    simp only at h
                    exact .inl ⟨rfl, by simp [Instr.findKey, run_underlying hk, h]⟩
                  | some q =>
                    obtain ⟨j, u⟩ := q
                    obtain ⟨u', h1, h2, _⟩ := h
                    exact .inr ⟨j, u, u', rfl, by simp [Instr.findKey, run_underlying hk, h1], h2⟩
                · have hnil : es = [] := by
                    cases es with
                    | nil => rfl
                    | cons e0 _ => exact absurd ⟨e0, by simp⟩ hes0
                  rw [hnil] at hfd hsz
                  simp only [findD, Option.some.injEq] at hfd
                  have : arr = #[] := by simpa using hsz
                  rw [this]
                  exact .inl ⟨hfd.symm, by simp [Instr.findKey, run_underlying hk, Instr.findNow]⟩
              have pair : ∀ {A B : Value} (c : Bool), VRel P w0.heap.size μ A B → VRel P w0.heap.size μ (.tuple #[A, .bool c]) (.tuple #[B, .bool c]) := by
                intro A B c hAB
                refine .tuple _ _ rfl ?_
                intro i a b ha hb
                match i, ha, hb with
                | 0, ha, hb => simp at ha hb; subst ha; subst hb; exact hAB
                | 1, ha, hb => simp at ha hb; subst ha; subst hb; exact .atom _ rfl
              have fin : ∀ (res : Option (Nat × Value)) (R : Value), (Instr.findKey kt (a.eval i) arr.toList).run P w = .ok res w →
                  R = (match res with | some (_, u) => if ok then .tuple #[u, .bool true] else u | none => if ok then .tuple #[z, .bool false] else z) →
                  (Instr.lookup t (a.eval x) (a.eval i) ok).run P w = .ok R w := by
                intro res R hres hR
                rcases hrun with ⟨e1, rfl⟩ | ⟨rr, clock, e1, hh⟩
                · rw [e1]
                  simp only [Instr.lookup, Sem.run_bind, run_underlying hu, Result.andThen_ok, Sem.run_pure, hck]
                  rw [hres]
                  subst hR
                  cases res with
                  | none => simp [run_zero hz]
                  | some q => rfl
                · rw [e1]
                  have hget : (getObj rr).run P w = .ok (.map arr clock) w := by simp [getObj, Sem.run, hh]
                  simp only [Instr.lookup, Sem.run_bind, run_underlying hu, Result.andThen_ok, Sem.run_pure, hget, hck]
                  rw [hres]
                  subst hR
                  cases res with
                  | none => simp [run_zero hz]
                  | some q => rfl
              rcases hnow with ⟨rfl, hres⟩ | ⟨j, u, u', rfl, hres, hu'⟩
              · simp only [hfd, Option.some.injEq] at he
                refine ⟨if ok then .tuple #[z, .bool false] else z, ?_, ?_⟩
                · simp only [execOp]
                  exact val _ _ (fin _ _ hres rfl)
                · rw [← he]
                  cases ok
                  · exact VRel.flat hfz
                  · exact pair false (VRel.flat hfz)
              · simp only [hfd, Option.some.injEq] at he
                refine ⟨if ok then .tuple #[u', .bool true] else u', ?_, ?_⟩
                · simp only [execOp]
                  exact val _ _ (fin _ _ hres rfl)
                · rw [← he]
                  cases ok
                  · exact hu'
                  · exact pair true hu'
          · cases he
        · cases he
      split at hc
      · rename_i z hk hz
        split at hc
        · rename_i hfz
          exact main true z _ (.inl ⟨rfl, rfl⟩) hk hz hfz (Option.some.inj hc)
        · cases hc
      · rename_i j z hk hz
        split at hc
        · rename_i hfz
          exact main false z _ (.inr ⟨rfl, j, rfl⟩) hk hz hfz (Option.some.inj hc)
        · cases hc
      · cases hc
    · cases hc
  | call c =>
    simp only [copL] at hc
    obtain ⟨callee, args, tys⟩ := c
    simp only at hc
    split at hc
    · rename_i _ b
      cases b <;> simp only [copB] at hc <;> try (cases hc; done)
      · split at hc
        · rename_i x t hx ht
          have ea : args = #[x] := by apply Array.ext'; simpa using hx
          have et : tys = #[t] := by apply Array.ext'; simpa using ht
          subst ea; subst et
          split at hc
          · rename_i e hu
            cases hc
            simp only [LOp.eval] at he
            split at he
            · rename_i aa n c h1
              cases he
              have h := hr x (by simp [Op.operands, Call.operands]) _ h1
              have e1 : ∃ a' c', a.eval x = .slice a' n c' := by
                cases aa with
                | none => exact ⟨none, c, h.atom_eq rfl⟩
                | some aa => obtain ⟨a', c', e1, _⟩ := slice_inv h; exact ⟨some a', c', e1⟩
              obtain ⟨a', c', e1⟩ := e1
              refine ⟨_, ?_, .atom _ rfl⟩
              simp [execOp, resolve, invoke, builtin, Builtin.len_, e1, run_underlying hu, goInt]
            · cases he
          · rename_i hu
            cases hc
            simp only [LOp.eval] at he
            split at he
            · rename_i sb h1
              cases he
              have e1 : a.eval x = .string sb := (hr x (by simp [Op.operands, Call.operands]) _ h1).atom_eq rfl
              refine ⟨_, ?_, .atom _ rfl⟩
              simp [execOp, resolve, invoke, builtin, Builtin.len_, e1, run_underlying hu, goInt]
            · cases he
          · cases hc
        · cases hc
      · split at hc
        · rename_i x y hx
          have ea : args = #[x, y] := by apply Array.ext'; simpa using hx
          subst ea
          cases hc
          simp only [LOp.eval] at he
          split at he
          · rename_i k p k' q h1 h2
            cases he
            have e1 := (hr x (by simp [Op.operands, Call.operands]) _ h1).int_eq
            have e2 := (hr y (by simp [Op.operands, Call.operands]) _ h2).int_eq
            refine ⟨_, ?_, .atom _ rfl⟩
            simp [execOp, resolve, invoke, builtin, Builtin.min_, Builtin.min2, e1, e2]
          · cases he
        · cases hc
    · cases hc
  | _ => simp [copL] at hc

end
end Go.Proofs.Ytnndjlgkhfinjaa.V
