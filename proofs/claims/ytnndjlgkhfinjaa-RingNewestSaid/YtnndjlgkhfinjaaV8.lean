/-
  The abstract semantics 'V', part 8: the model's operations that write, one by one.
-/
import Derived.Test.YtnndjlgkhfinjaaV7
set_option linter.all false
set_option linter.unusedSimpArgs false
set_option linter.unusedVariables false
set_option linter.unnecessarySimpa false
namespace Go.Proofs.Ytnndjlgkhfinjaa.V
open Go Go.RowKit

section
variable {P : Program} {w0 : World}

theorem hgoes_value {μ : Mp} {st : St} {w : World} {s : Sem Value} {v : Value} {st' : St}
    (h : ∃ v' w' μ', s.run P w = .ok v' w' ∧ VRel P w0.heap.size μ' v v' ∧ Sim P w0 μ' st' w' ∧ Ext μ μ' ∧ Keep μ st μ' st') :
    HGoes P w0 μ st w (do pure (.value (← s))) v st' := by
  obtain ⟨v', w', μ', h1, h2, h3, h4, h5⟩ := h
  exact ⟨.value v', v', w', μ', by simp [h1], .inl rfl, h2, h3, h4, h5⟩

theorem append_slices {μ : Mp} {st : St} {w : World} (hs : Sim P w0 μ st w) {t u e f ty : TypeId} {i : TypeInfo} {z : Value} {zs : List Value} (hu : P.underlying t = some (.slice e)) (hu' : P.underlying u = some (.slice f))
    (hi : P.info? e = some i) (hz : zeroOf P e = some z) (hq : cellsQ z = some zs) (hall : zs.all V.atom = true) (hzl : zs.length = i.size) (hpos : 0 < i.size)
    {s S x X : Value} (hss : VRel P w0.heap.size μ s S) (hxx : VRel P w0.heap.size μ x X) {m : Nat} {new : List Value} (hn : newCells w0 st i.size x = some (m, new))
    {v : Value} {st' : St} (he : appendV w0.heap.size st e i.size i.bytes s m new = some (v, st')) :
    ∃ v' w' μ', (Builtin.append_ #[t, u] ty #[S, X]).run P w = .ok v' w' ∧ VRel P w0.heap.size μ' v v' ∧ Sim P w0 μ' st' w' ∧ Ext μ μ' ∧ Keep μ st μ' st' := by
  obtain ⟨xa, xn, xc, new', rfl, rfl, hln, hnew, hfirst⟩ := newCells_sound hs hxx hn
  have hzc : z.cells = zs.toArray := cellsQ_flat hq hall
  have hzr := fun w => run_zero hz w
  refine append_sound hs hu hi hz hq hall hzl hpos hss hln hnew he _ ?_ ?_ ?_
  · rintro n c rfl hle
    have := hfirst w (fun _ => rfl)
    simp [Builtin.append_, run_underlying hu, run_underlying hu', run_size hi, Builtin.lenOf, hle, this]
  · rintro a n c rfl hle
    have := hfirst w (fun _ => rfl)
    simp [Builtin.append_, run_underlying hu, run_underlying hu', run_size hi, Builtin.lenOf, hle, this]
  · rintro base n c old rfl hlt h63 hby hold
    have := hfirst w.drew (fun _ => rfl)
    have hfit := growslice_fits hlt hby
    have h1 : ¬ (9223372036854775807 < ((n : Int) + (xn : Int))) := by omega
    have h2 : ¬ (281474976710656 < Builtin.nextslicecap (n + xn) c * i.bytes) := by omega
    simp [Builtin.append_, run_underlying hu, run_underlying hu', run_size hi, run_info hi, Builtin.lenOf, show ¬ n + xn ≤ c by omega, h1, h2, Question.forced, hold, this, hzr, newRow, grownCap, hzc, zeroCells_eq]

theorem append_zeros {μ : Mp} {st : St} {w : World} (hs : Sim P w0 μ st w) {t u e ty : TypeId} {ik : IntKind} {i : TypeInfo} {z : Value} {zs : List Value} (hu : P.underlying t = some (.slice e)) (hu' : P.underlying u = some (.int ik))
    (hi : P.info? e = some i) (hz : zeroOf P e = some z) (hq : cellsQ z = some zs) (hall : zs.all V.atom = true) (hzl : zs.length = i.size) (hpos : 0 < i.size)
    {s S : Value} (hss : VRel P w0.heap.size μ s S) {m : Int} (hm0 : 0 ≤ m) (hm1 : m < 9223372036854775808)
    {v : Value} {st' : St} (he : appendV w0.heap.size st e i.size i.bytes s m.toNat (zeros m.toNat zs) = some (v, st')) (hby : m * i.bytes ≤ 281474976710656) :
    ∃ v' w' μ', (Builtin.append_ #[t, u] ty #[S, .int .i64 m]).run P w = .ok v' w' ∧ VRel P w0.heap.size μ' v v' ∧ Sim P w0 μ' st' w' ∧ Ext μ μ' ∧ Keep μ st μ' st' := by
  have hzc : z.cells = zs.toArray := cellsQ_flat hq hall
  have hzr := fun w => run_zero hz w
  have hw : IntKind.i64.wrap m = m := IntWalk.i64_in _ (by omega)
  have hneg : ¬ (m < 0) := by omega
  have hlarge : ¬ (281474976710656 < m * (i.bytes : Int)) := by omega
  have hz0 : m.toNat * i.size = 0 → zeros m.toNat zs = [] := by
    intro h0
    have : m.toNat = 0 := by
      rcases Nat.mul_eq_zero.1 h0 with h | h
      · exact h
      · omega
    rw [this]; rfl
  refine append_sound hs hu hi hz hq hall hzl hpos hss (by rw [zeros_length, hzl]) (relC_atoms (zeros_atoms hall _)) he _ ?_ ?_ ?_
  · rintro n c rfl hle
    by_cases h0 : m.toNat * i.size = 0
    · simp [Builtin.append_, run_underlying hu, run_underlying hu', run_size hi, run_info hi, asInt, asIntOf, hw, hneg, hlarge, hle, h0, hz0 h0]
    · simp [Builtin.append_, run_underlying hu, run_underlying hu', run_size hi, run_info hi, asInt, asIntOf, hw, hneg, hlarge, hle, h0, hzr, hzc, zeroCells_eq]
  · rintro a n c rfl hle
    by_cases h0 : m.toNat * i.size = 0
    · simp [Builtin.append_, run_underlying hu, run_underlying hu', run_size hi, run_info hi, asInt, asIntOf, hw, hneg, hlarge, hle, h0, hz0 h0]
    · simp [Builtin.append_, run_underlying hu, run_underlying hu', run_size hi, run_info hi, asInt, asIntOf, hw, hneg, hlarge, hle, h0, hzr, hzc, zeroCells_eq]
  · rintro base n c old rfl hlt h63 hby hold
    have hfit := growslice_fits hlt hby
    have h1 : ¬ (9223372036854775807 < ((n : Int) + (m.toNat : Int))) := by omega
    have h2 : ¬ (281474976710656 < Builtin.nextslicecap (n + m.toNat) c * i.bytes) := by omega
    have h3 : ¬ (9223372036854775807 < ((n : Int) + max m 0)) := by omega
    by_cases h0 : m.toNat * i.size = 0
    · simp [Builtin.append_, run_underlying hu, run_underlying hu', run_size hi, run_info hi, asInt, asIntOf, hw, hneg, hlarge, show ¬ n + m.toNat ≤ c by omega, h1, h2, h3, Question.forced, hold, hzr, newRow, grownCap, hzc, zeroCells_eq, h0, hz0 h0]
    · simp [Builtin.append_, run_underlying hu, run_underlying hu', run_size hi, run_info hi, asInt, asIntOf, hw, hneg, hlarge, show ¬ n + m.toNat ≤ c by omega, h1, h2, h3, Question.forced, hold, hzr, newRow, grownCap, hzc, zeroCells_eq, h0]

theorem appendV_bytes {n0 : Nat} {st : St} {ty : TypeId} {sz bytes : Nat} {s : Value} {m : Nat} {new : List Value} {r : Value × St} (h : appendV n0 st ty sz bytes s m new = some r) : m * bytes ≤ 140737488355328 := by
  cases s with
  | slice a n c =>
    cases a with
    | none =>
      simp only [appendV] at h
      split at h
      · rename_i hc; exact hc.2.2.1
      · cases h
    | some a =>
      simp only [appendV] at h
      split at h
      · cases h
      · split at h
        · rename_i hc
          have := hc.2.2.1
          rw [Nat.add_mul] at this
          omega
        · cases h
  | _ => simp [appendV] at h

theorem copy_sound {μ : Mp} {st : St} {w : World} (hs : Sim P w0 μ st w) {t e ty : TypeId} {ts : List TypeId} {i : TypeInfo} (hu : P.underlying t = some (.slice e)) (hi : P.info? e = some i)
    {da sa : Option Addr} {dn dc sn sc : Nat} {D S : Value} (hd : VRel P w0.heap.size μ (.slice da dn dc) D) (hsr : VRel P w0.heap.size μ (.slice sa sn sc) S) {tys : Array TypeId} (ht : tys[0]? = some t)
    {v : Value} {st' : St}
    (he : (if min sn dn = 0 then some (.int .i64 0, st) else
      match da, sa with
      | some da, some sa => match st.blk da.block, cellsAt w0 st sa (min sn dn * i.size) with
        | some (.cells cs ty), some vs => if da.spot = none ∧ da.off + min sn dn * i.size ≤ cs.length then
            some (.int .i64 (min sn dn : Nat), st.set da.block (.cells (cs.take da.off ++ vs ++ cs.drop (da.off + min sn dn * i.size)) ty)) else none
        | _, _ => none
      | _, _ => none) = some (v, st')) :
    ∃ v' w' μ', (Builtin.copy_ tys ty #[D, S]).run P w = .ok v' w' ∧ VRel P w0.heap.size μ' v v' ∧ Sim P w0 μ' st' w' ∧ Ext μ μ' ∧ Keep μ st μ' st' := by
  have shape : ∀ {a : Option Addr} {n c : Nat} {X : Value}, VRel P w0.heap.size μ (.slice a n c) X → ∃ a' c', X = .slice a' n c' ∧ (a = none → a' = none) ∧
      (∀ b, a = some b → ∃ b', a' = some b' ∧ (0 < n → VRel P w0.heap.size μ (.pointer (some b)) (.pointer (some b')))) := by
    intro a n c X h
    cases a with
    | none =>
      refine ⟨none, c, h.atom_eq rfl, fun _ => rfl, ?_⟩
      intro b hb; cases hb
    | some b =>
      obtain ⟨a', c', e1, hp⟩ := slice_inv h
      refine ⟨some a', c', e1, ?_, ?_⟩
      · intro h; cases h
      · intro b' hb; cases hb; exact ⟨a', rfl, hp⟩
  obtain ⟨da', dc', rfl, dN, dS⟩ := shape hd
  obtain ⟨sa', sc', rfl, sN, sS⟩ := shape hsr
  have hmin : Nat.min sn dn = min sn dn := rfl
  split at he
  · rename_i h0
    cases he
    refine ⟨.int .i64 0, w, μ, ?_, .atom _ rfl, hs, Ext.refl _, Keep.refl _ _⟩
    have hf : (Builtin.firstCells i.size 0 (.slice sa' sn sc')).run P w = .ok #[] w := by
      cases sa' <;> simp [Builtin.firstCells, loadCells, loadCellsFrom]
    simp only [Builtin.copy_, ht, List.getElem?_toArray, List.getElem?_cons_zero, List.getElem?_cons_succ, Sem.run_bind, run_underlying hu, Result.andThen_ok, Builtin.lenOf, pure_bind, run_size hi, hmin, h0, hf]
    cases da' <;> simp [storeCells, goInt]
  · rename_i h0
    split at he
    · rename_i d s
      split at he
      · rename_i cs ty' vs hb hc
        split at he
        · rename_i hcond
          obtain ⟨hsp, hle⟩ := hcond
          cases he
          obtain ⟨d', rfl, hdp⟩ := dS d rfl
          obtain ⟨s', rfl, hspp⟩ := sS s rfl
          obtain ⟨s'', vs', e1, hl, hl', hcell, hrel, hone⟩ := cellsAt_sound hs (hspp (by omega)) hc
          cases e1
          obtain ⟨m, hm, _, e2⟩ := ptr_own hs (hdp (by omega)) hb
          cases e2
          have hf := run_firstCells_some (P := P) w i.size (min sn dn) s' sn sc' vs' hl' hcell
          obtain ⟨o, ho, hat⟩ := hs.at hb hm
          cases o <;> try (exact hat.elim)
          rename_i arr ty'' fr
          have hat' := hat
          obtain ⟨h1, rfl, rfl, h4, h5, h6, h7⟩ := hat
          have hrel' : RelC P w0.heap.size μ vs vs' := ⟨by rw [hl, hl'], hrel, hone⟩
          have hst := run_storeCells_at P m.blk (m.base + d.off) ty'' vs' 0 arr w ho (by rw [hl']; omega) hrel'.one_of
          have hw := blkAt_write hat' hrel' (off := d.off) (by rw [hl]; exact hle)
          rw [hl] at hw
          refine ⟨.int .i64 (min sn dn : Nat), w.setRow m.blk (arr.toList.take (m.base + d.off) ++ vs' ++ arr.toList.drop (m.base + d.off + vs'.length)).toArray, μ, ?_, .atom _ rfl, ?_, Ext.refl _, Keep.set hm _⟩
          · simp only [Builtin.copy_, ht, List.getElem?_toArray, List.getElem?_cons_zero, List.getElem?_cons_succ, Sem.run_bind, run_underlying hu, Result.andThen_ok, Builtin.lenOf, pure_bind, run_size hi, hmin, hf]
            simp only [Nat.add_zero] at hst
            simp [hst, goInt]
          · refine hs.put hm (by rw [hb]; rfl) hw (by simp) (fun j => ?_) rfl rfl rfl
            exact heap_setRow w m.blk _ arr ty'' (0, 0) ho j
        · cases he
      · cases he
    · cases he

theorem findD_atom {str : Bool} {k : Value} : ∀ {es : List (Value × Value)} {i : Nat} {r}, findD str k es i = some r → (∃ e, e ∈ es) → atom k = true := by
  intro es i r h hne
  cases es with
  | nil => obtain ⟨e, he⟩ := hne; cases he
  | cons e es =>
    simp only [findD] at h
    cases hc : keyCmp str k e.1 with
    | none => simp [hc] at h
    | some b => cases k <;> first | rfl | simp [keyCmp] at hc

theorem findD_at {str : Bool} {k : Value} : ∀ (es : List (Value × Value)) (i j : Nat) (v : Value), findD str k es i = some (some (j, v)) →
    ∃ k', i ≤ j ∧ es[j - i]? = some (k', v) ∧ keyCmp str k k' = some true := by
  intro es
  induction es with
  | nil => intro i j v h; simp [findD] at h
  | cons e es ih =>
    intro i j v h
    simp only [findD] at h
    cases hc : keyCmp str k e.1 with
    | none => simp [hc] at h
    | some b =>
      cases b with
      | true =>
        simp only [hc, Option.some.injEq, Prod.mk.injEq] at h
        obtain ⟨rfl, rfl⟩ := h
        exact ⟨e.1, Nat.le_refl _, by simp, hc⟩
      | false =>
        simp only [hc] at h
        obtain ⟨k', h1, h2, h3⟩ := ih (i + 1) j v h
        refine ⟨k', by omega, ?_, h3⟩
        rw [show j - i = (j - (i + 1)) + 1 by omega]
        simpa using h2

theorem ba_eq {a b : ByteArray} (h : (a == b) = true) : a = b := by
  cases a; cases b
  have : (_ == _) = true := h
  congr 1
  exact eq_of_beq this

theorem ba_refl (a : ByteArray) : (a == a) = true := by
  cases a with
  | mk d => exact (beq_self_eq_true d : (d == d) = true)

theorem keyCmp_same {str : Bool} {a b : Value} (h : keyCmp str a b = some true) : Instr.sameBits 10000 b a = true := by
  cases a <;> cases b <;> simp only [keyCmp] at h <;> try (cases h; done)
  · split at h
    · rename_i hc
      obtain ⟨_, rfl⟩ := hc
      simp at h
      subst h
      simp [Instr.sameBits]
    · cases h
  · split at h
    · simp only [Option.some.injEq] at h
      have h' := ba_eq h
      rw [h']; simp only [Instr.sameBits]
      exact ba_refl _
    · cases h

theorem mapset_sound {μ : Mp} {st : St} {w : World} (hs : Sim P w0 μ st w) {t kt et : TypeId} {d : TypeDesc} {str : Bool} (hu : P.underlying t = some (.map kt et)) (hk : P.underlying kt = some d)
    (hd : (str = true ∧ d = .string) ∨ (str = false ∧ ∃ i, d = .int i)) {b : Nat} {es : List (Value × Value)} (hb : st.blk b = some (.map es)) {M K V k v : Value}
    (hm : VRel P w0.heap.size μ (.map (some b)) M) (hkk : VRel P w0.heap.size μ k K) (hv : VRel P w0.heap.size μ v V) (hat : atom k = true) {es' : List (Value × Value)}
    (he : (match findD str k es 0 with
          | some (some (i, _)) => some (es.set i (k, v))
          | some none => some (es ++ [(k, v)])
          | none => none) = some es') :
    HGoes P w0 μ st w (do Instr.mapUpdate t M K V; pure .skip) undef (st.set b (.map es')) := by
  obtain ⟨m, rfl, hmm⟩ := hm.map_inv
  have hK : K = k := hkk.atom_eq hat
  subst hK
  obtain ⟨o, ho, hato⟩ := hs.at hb hmm
  cases o <;> try (exact hato.elim)
  rename_i arr clock
  obtain ⟨hsz, hrel⟩ := hato
  have hck : ∀ e X, (Instr.checkKey e 10000 kt X).run P w = .ok () w := by
    intro e X
    rw [show (10000 : Nat) = 9999 + 1 from rfl, Instr.checkKey]
    simp only [Sem.run_bind, run_underlying hk, Result.andThen_ok]
    rcases hd with ⟨_, rfl⟩ | ⟨_, j, rfl⟩ <;> rfl
  have hget : (getObj m.blk).run P w = .ok (.map arr clock) w := by simp [getObj, Sem.run, ho]
  have hset : ∀ o', (setObj m.blk o').run P w = .ok () { w with heap := w.heap.setIfInBounds m.blk o' } := by
    intro o'; simp [setObj, Sem.run, ho]
  have hlt : m.blk < w.heap.size := (hs.lo b m hmm).2.2
  have hheap : ∀ (o' : Obj) (i : Nat), ({ w with heap := w.heap.setIfInBounds m.blk o' } : World).heap[i]? = if i = m.blk then some o' else w.heap[i]? := by
    intro o' i
    simp only [Array.getElem?_setIfInBounds]
    by_cases e : m.blk = i
    · subst e; simp [hlt]
    · simp [e, Ne.symm e]
  have hfd : ∀ r, findD str K es 0 = some r → match r with
      | none => (Instr.findKey kt K arr.toList).run P w = .ok none w
      | some (j, u) => ∃ u', (Instr.findKey kt K arr.toList).run P w = .ok (some (j, u')) w := by
    intro r hr
    have h := findD_now (P := P) (w0 := w0) (μ := μ) hd es arr.toList 0 (by simpa using hsz) (fun j k v hj => by
      obtain ⟨_, e, h1, h2, h3⟩ := hrel j k v hj
      exact ⟨e, by simpa using h1, h2, h3⟩) r hr
    cases r with
    | none => simp only at h ⊢; simp [Instr.findKey, run_underlying hk, h]
    | some q =>
      obtain ⟨j, u⟩ := q
      obtain ⟨u', h1, _⟩ := h
      exact ⟨u', by simp [Instr.findKey, run_underlying hk, h1]⟩
  have fin : ∀ (o' : Obj), (Instr.mapUpdate t (.map (some m.blk)) K V).run P w = .ok () { w with heap := w.heap.setIfInBounds m.blk o' } → BlkAt P w0.heap.size μ m (.map es') o' →
      HGoes P w0 μ st w (do Instr.mapUpdate t (.map (some m.blk)) K V; pure .skip) undef (st.set b (.map es')) := by
    intro o' hrun hbo
    refine ⟨.skip, undef, { w with heap := w.heap.setIfInBounds m.blk o' }, μ, ?_, .inr ⟨rfl, rfl⟩, VRel.undef, ?_, Ext.refl _, Keep.set hmm _⟩
    · simp only [Sem.run_bind, hrun, Result.andThen_ok, Sem.run_pure]
    · exact hs.put hmm (by rw [hb]; rfl) hbo (by simp) (hheap o') rfl rfl rfl
  split at he
  · rename_i i u hf
    cases he
    obtain ⟨k', _, hi, hcmp⟩ := findD_at es 0 i u hf
    rw [Nat.sub_zero] at hi
    obtain ⟨_, e, he1, he2, _⟩ := hrel i k' u hi
    obtain ⟨u', hfk⟩ := hfd _ hf
    refine fin (.map (arr.modify i fun e => { e with key := K, val := V }) clock) ?_ ?_
    · simp only [Instr.mapUpdate, Sem.run_bind, run_underlying hu, Result.andThen_ok, hget, hck, hfk]
      have hstay : (Instr.keyThatStays (((arr[i]?).map (·.key)).getD K) K).run P w = .ok K w := by
        rw [he1]
        simp only [Option.map_some, Option.getD_some, Instr.keyThatStays, he2, keyCmp_same hcmp, if_true]
        rfl
      simp only [hstay, Result.andThen_ok, hset]
    · refine ⟨by simp [hsz], ?_⟩
      intro j kj vj hj
      rw [List.getElem?_set] at hj
      simp only [Array.getElem?_modify]
      by_cases e : i = j
      · subst e
        have hl : i < es.length := (List.getElem?_eq_some_iff.1 hi).1
        simp only [if_true, hl, Option.some.injEq, Prod.mk.injEq] at hj
        obtain ⟨rfl, rfl⟩ := hj
        exact ⟨hat, { e with key := K, val := V }, by rw [he1]; simp, rfl, hv⟩
      · rw [if_neg e] at hj
        obtain ⟨q1, e', q2, q3, q4⟩ := hrel j kj vj hj
        exact ⟨q1, e', by simp [e, q2], q3, q4⟩
  · rename_i hf
    cases he
    have hfk := hfd _ hf
    simp only at hfk
    refine fin (.map (arr.push { key := K, val := V, born := clock }) (clock + 1)) ?_ ?_
    · simp only [Instr.mapUpdate, Sem.run_bind, run_underlying hu, Result.andThen_ok, hget, hck, hfk, hset]
    · refine ⟨by simp [hsz], ?_⟩
      intro j kj vj hj
      rw [List.getElem?_append] at hj
      split at hj
      · rename_i hlt'
        obtain ⟨q1, e', q2, q3, q4⟩ := hrel j kj vj hj
        have : j < arr.size := by omega
        exact ⟨q1, e', by rw [Array.getElem?_push]; rw [if_neg (by omega)]; exact q2, q3, q4⟩
      · rename_i hlt'
        have hj0 : j - es.length = 0 := by
          have := (List.getElem?_eq_some_iff.1 hj).1
          simp at this; omega
        have : j = arr.size := by omega
        rw [hj0] at hj
        simp at hj
        obtain ⟨rfl, rfl⟩ := hj
        exact ⟨hat, _, by rw [Array.getElem?_push, if_pos this], rfl, hv⟩
  · cases he

theorem next_sound {μ : Mp} {st : St} {w : World} (hs : Sim P w0 μ st w) {a : Addr} {X : Value} (hx : VRel P w0.heap.size μ (.pointer (some a)) X) {s : ByteArray} {pos : Nat}
    (hb : st.blk a.block = some (.iter s pos)) (h0 : a.off = 0) {ty : TypeId} {v : Value} {st' : St}
    (he : (if pos < s.size then some (.tuple #[.bool true, .int .i64 pos, .int .i32 (Utf8.decode s pos).1], st.set a.block (.iter s (pos + (Utf8.decode s pos).2)))
          else some (.tuple #[.bool false], st)) = some (v, st')) :
    ∃ v' w' μ', (Instr.next X true ty).run P w = .ok v' w' ∧ VRel P w0.heap.size μ' v v' ∧ Sim P w0 μ' st' w' ∧ Ext μ μ' ∧ Keep μ st μ' st' := by
  obtain ⟨m, hm, hsp, rfl⟩ := ptr_own hs hx hb
  obtain ⟨hbase, ho⟩ := hs.iters _ _ _ _ hb hm
  have hoff : m.base + a.off = 0 := by omega
  have hget : (getObj m.blk).run P w = .ok (.stringIter s pos) w := by simp [getObj, Sem.run, ho]
  have hlt : m.blk < w.heap.size := (hs.lo _ m hm).2.2
  split at he
  · rename_i hp
    cases he
    have hset : ∀ o', (setObj m.blk o').run P w = .ok () { w with heap := w.heap.setIfInBounds m.blk o' } := by
      intro o'; simp [setObj, Sem.run, ho]
    refine ⟨.tuple #[.bool true, .int .i64 pos, .int .i32 (Utf8.decode s pos).1], { w with heap := w.heap.setIfInBounds m.blk (.stringIter s (pos + (Utf8.decode s pos).2)) }, μ, ?_, VRel.flat ?_, ?_, Ext.refl _, Keep.set hm _⟩
    · rw [hoff]
      simp [Instr.next, hget, hp, hset, goInt]
    · simp [flatV, V.atom]
    · refine hs.put hm (by rw [hb]; rfl) (bk := .iter s (pos + (Utf8.decode s pos).2)) (o := .stringIter s (pos + (Utf8.decode s pos).2)) ⟨hbase, rfl, rfl⟩ (by simp) (fun i => ?_) rfl rfl rfl
      simp only [Array.getElem?_setIfInBounds]
      by_cases e : m.blk = i
      · subst e; simp [hlt]
      · simp [e, Ne.symm e]
  · rename_i hp
    cases he
    refine ⟨.tuple #[.bool false], w, μ, ?_, VRel.flat (by simp [flatV, V.atom]), hs, Ext.refl _, Keep.refl _ _⟩
    rw [hoff]
    simp [Instr.next, hget, hp]

/-- An operation of the model that writes does what the abstract one does. -/
theorem heavy_sound {o : Oper} {h : HOp} (hc : copH P o.op = some h) {env : Env} {st st' : St} {v : Value} (he : h.eval w0 env st = some (v, st'))
    {μ : Mp} {w : World} {a : Act} (hs : Sim P w0 μ st w) (hr : ∀ x ∈ o.op.operands.toList, ∀ u, evalO env x = some u → VRel P w0.heap.size μ u (a.eval x)) :
    HGoes P w0 μ st w (execOp a.eval o) v st' := by
  obtain ⟨dst, op, type, pos, after, guard⟩ := o
  simp only at hc hr
  cases op with
  | store t x y =>
    simp only [copH] at hc
    cases hi : P.info? t with
    | none => simp [hi] at hc
    | some i =>
      simp only [hi, Option.map_some, Option.some.injEq] at hc
      subst hc
      simp only [HOp.eval] at he
      split at he
      · rename_i ad vs h1 h2
        split at he
        · rename_i hcond
          split at he
          · rename_i cs ty hb
            split at he
            · rename_i hle
              cases he
              cases hv : evalO env y with
              | none => simp [hv] at h2
              | some u =>
                simp only [hv, Option.bind_some] at h2
                exact store_sound hs hi (hr x (by simp [Op.operands]) _ h1) (hr y (by simp [Op.operands]) _ hv) h2 hcond.2 hb hle
            · cases he
          · cases he
        · cases he
      · cases he
  | call c =>
    obtain ⟨callee, args, tys⟩ := c
    simp only [copH] at hc
    split at hc
    · rename_i s x t u hargs htys
      have ea : args = #[s, x] := by apply Array.ext'; simpa using hargs
      have et : tys = #[t, u] := by apply Array.ext'; simpa using htys
      subst ea; subst et
      split at hc
      · rename_i e hu
        split at hc
        · rename_i i z hi hz
          split at hc
          · rename_i zs hq
            split at hc
            · rename_i hcond
              obtain ⟨hall, hzl, hpos⟩ := hcond
              split at hc
              · rename_i f hu'
                cases hc
                simp only [HOp.eval] at he
                split at he
                · rename_i sv xv h1 h2
                  split at he
                  · rename_i m new hn
                    have := append_slices (ty := type) hs hu hu' hi hz hq hall hzl hpos (hr s (by simp [Op.operands, Call.operands]) _ h1) (hr x (by simp [Op.operands, Call.operands]) _ h2) hn he
                    have h := hgoes_value this
                    simpa [execOp, resolve, invoke, builtin] using h
                  · cases he
                · cases he
              · rename_i ik hu'
                cases hc
                simp only [HOp.eval] at he
                split at he
                · rename_i sv m h1 h2
                  split at he
                  · rename_i hm
                    have e2 := (hr x (by simp [Op.operands, Call.operands]) _ h2).int_eq
                    have hby := appendV_bytes he
                    have hby' : m * (i.bytes : Int) ≤ 281474976710656 := by
                      have h3 := Int.ofNat_le.2 hby
                      rw [Int.natCast_mul, show ((m.toNat : Nat) : Int) = m by omega] at h3
                      omega
                    have := append_zeros (ty := type) hs hu hu' hi hz hq hall hzl hpos (hr s (by simp [Op.operands, Call.operands]) _ h1) hm.1 hm.2 he hby'
                    have h := hgoes_value this
                    simpa [execOp, resolve, invoke, builtin, e2] using h
                  · cases he
                · cases he
              · cases hc
            · cases hc
          · cases hc
        · cases hc
      · cases hc
    · rename_i d s t ts hargs htys
      have ea : args = #[d, s] := by apply Array.ext'; simpa using hargs
      subst ea
      have et : tys[0]? = some t := by rw [← Array.getElem?_toList, htys]; rfl
      split at hc
      · rename_i e hu
        cases hi : P.info? e with
        | none => simp [hi] at hc
        | some i =>
          simp only [hi, Option.map_some, Option.some.injEq] at hc
          subst hc
          simp only [HOp.eval] at he
          split at he
          · rename_i da dn dc sa sn sc h1 h2
            have := copy_sound (ty := type) (ts := ts) hs hu hi (hr d (by simp [Op.operands, Call.operands]) _ h1) (hr s (by simp [Op.operands, Call.operands]) _ h2) et he
            have h := hgoes_value this
            simpa [execOp, resolve, invoke, builtin] using h
          · cases he
      · cases hc
    · cases hc
  | mapUpdate t m k x =>
    simp only [copH] at hc
    split at hc
    · rename_i kt et hu
      have main : ∀ (str : Bool) (d : TypeDesc), ((str = true ∧ d = .string) ∨ (str = false ∧ ∃ i, d = .int i)) → P.underlying kt = some d → h = .mapset str m k x →
          HGoes P w0 μ st w (execOp a.eval ⟨dst, .mapUpdate t m k x, type, pos, after, guard⟩) v st' := by
        intro str d hd hk hh
        subst hh
        simp only [HOp.eval] at he
        split at he
        · rename_i b kv xv h1 h2 h3
          split at he
          · rename_i es hb
            split at he
            · rename_i hat
              have key : ∃ es', (match findD str kv es 0 with
                  | some (some (i, _)) => some (es.set i (kv, xv))
                  | some none => some (es ++ [(kv, xv)])
                  | none => none) = some es' ∧ v = undef ∧ st' = st.set b (.map es') := by
                split at he
                · rename_i hfd; cases he; exact ⟨_, by rw [hfd], rfl, rfl⟩
                · rename_i hfd; cases he; exact ⟨_, by rw [hfd], rfl, rfl⟩
                · cases he
              obtain ⟨es', h4, rfl, rfl⟩ := key
              exact mapset_sound hs hu hk hd hb (hr m (by simp [Op.operands]) _ h1) (hr k (by simp [Op.operands]) _ h2) (hr x (by simp [Op.operands]) _ h3) hat h4
            · cases he
          · cases he
        · cases he
      split at hc
      · rename_i hk
        exact main true _ (.inl ⟨rfl, rfl⟩) hk (Option.some.inj hc).symm
      · rename_i j hk
        exact main false _ (.inr ⟨rfl, j, rfl⟩) hk (Option.some.inj hc).symm
      · cases hc
    · cases hc
  | insert t m k x =>
    simp only [copH] at hc
    split at hc
    · rename_i kt et hu
      have main : ∀ (str : Bool) (d : TypeDesc), ((str = true ∧ d = .string) ∨ (str = false ∧ ∃ i, d = .int i)) → P.underlying kt = some d → h = .mapset str m k x →
          HGoes P w0 μ st w (execOp a.eval ⟨dst, .insert t m k x, type, pos, after, guard⟩) v st' := by
        intro str d hd hk hh
        subst hh
        simp only [HOp.eval] at he
        split at he
        · rename_i b kv xv h1 h2 h3
          split at he
          · rename_i es hb
            split at he
            · rename_i hat
              have key : ∃ es', (match findD str kv es 0 with
                  | some (some (i, _)) => some (es.set i (kv, xv))
                  | some none => some (es ++ [(kv, xv)])
                  | none => none) = some es' ∧ v = undef ∧ st' = st.set b (.map es') := by
                split at he
                · rename_i hfd; cases he; exact ⟨_, by rw [hfd], rfl, rfl⟩
                · rename_i hfd; cases he; exact ⟨_, by rw [hfd], rfl, rfl⟩
                · cases he
              obtain ⟨es', h4, rfl, rfl⟩ := key
              exact mapset_sound hs hu hk hd hb (hr m (by simp [Op.operands]) _ h1) (hr k (by simp [Op.operands]) _ h2) (hr x (by simp [Op.operands]) _ h3) hat h4
            · cases he
          · cases he
        · cases he
      split at hc
      · rename_i hk
        exact main true _ (.inl ⟨rfl, rfl⟩) hk (Option.some.inj hc).symm
      · rename_i j hk
        exact main false _ (.inr ⟨rfl, j, rfl⟩) hk (Option.some.inj hc).symm
      · cases hc
    · cases hc
  | next x b =>
    cases b with
    | false => simp [copH] at hc
    | true =>
      simp only [copH, Option.some.injEq] at hc
      subst hc
      simp only [HOp.eval] at he
      split at he
      · rename_i ad h1
        split at he
        · rename_i s pos hb
          split at he
          · rename_i hcond
            exact hgoes_value (next_sound (ty := type) hs (hr x (by simp [Op.operands]) _ h1) hb hcond.1 he)
          · cases he
        · cases he
      · cases he
  | _ => simp [copH] at hc

end
end Go.Proofs.Ytnndjlgkhfinjaa.V
