/-
  The abstract semantics 'V', part 7: store, append, copy, a map's entry, the next rune of a text.
-/
import Derived.Test.YtnndjlgkhfinjaaV6
set_option linter.all false
set_option linter.unusedSimpArgs false
set_option linter.unusedVariables false
set_option linter.unnecessarySimpa false
namespace Go.Proofs.Ytnndjlgkhfinjaa.V
open Go Go.RowKit

inductive HOp where
  | store (n : Nat) (x v : Operand)
  | append (ty : TypeId) (sz bytes : Nat) (s x : Operand)
  | appendZ (ty : TypeId) (sz bytes : Nat) (zero : List Value) (s n : Operand)
  | copy (sz : Nat) (d s : Operand)
  | mapset (str : Bool) (m k v : Operand)
  | next (x : Operand)

/-- A slice's elements put behind another one's: a new block, and the elder one is given up. -/
def appendV (n0 : Nat) (st : St) (ty : TypeId) (sz bytes : Nat) (s : Value) (m : Nat) (new : List Value) : Option (Value × St) :=
  match s with
  | .slice none n c =>
    if n = 0 ∧ c = 0 ∧ m * bytes ≤ 140737488355328 ∧ m < 9223372036854775807 then
      if m = 0 then some (s, st) else some (.slice (some ⟨st.next, 0, none⟩) m sz, st.alloc (.cells new ty))
    else none
  | .slice (some a) n c =>
    if a.block < n0 then none else
    if c = sz ∧ a.spot = none ∧ (n + m) * bytes ≤ 140737488355328 ∧ n + m < 9223372036854775807 then
      if m = 0 then some (s, st) else
      match st.blk a.block with
      | some (.cells cs ty') =>
        if ty' = ty ∧ a.off + n * sz = cs.length then some (.slice (some ⟨st.next, 0, none⟩) (n + m) sz, (st.kill a.block).alloc (.cells (cs.drop a.off ++ new) ty)) else none
      | _ => none
    else none
  | _ => none

section
variable (P : Program) (w0 : World)

def newCells (st : St) (sz : Nat) : Value → Option (Nat × List Value)
  | .slice none n _ => if n = 0 then some (0, []) else none
  | .slice (some a) n _ => if n = 0 then some (0, []) else (cellsAt w0 st a (n * sz)).map fun cs => (n, cs)
  | _ => none

def setE (es : List (Value × Value)) (i : Nat) (k v : Value) : List (Value × Value) := es.set i (k, v)

def HOp.eval (env : Env) (st : St) : HOp → Option (Value × St)
  | .store n x v => match evalO env x, (evalO env v).bind cellsQ with
    | some (.pointer (some a)), some vs =>
      if a.spot = none ∧ vs.length = n then
        match st.blk a.block with
        | some (.cells cs ty) => if a.off + n ≤ cs.length then some (undef, st.set a.block (.cells (cs.take a.off ++ vs ++ cs.drop (a.off + n)) ty)) else none
        | _ => none
      else none
    | _, _ => none
  | .append ty sz bytes s x => match evalO env s, evalO env x with
    | some s, some x => match newCells w0 st sz x with
      | some (m, new) => appendV w0.heap.size st ty sz bytes s m new
      | none => none
    | _, _ => none
  | .appendZ ty sz bytes zero s x => match evalO env s, evalO env x with
    | some s, some (.int .i64 m) => if 0 ≤ m ∧ m < 9223372036854775808 then appendV w0.heap.size st ty sz bytes s m.toNat (zeros m.toNat zero) else none
    | _, _ => none
  | .copy sz d s => match evalO env d, evalO env s with
    | some (.slice da dn _), some (.slice sa sn _) =>
      if min sn dn = 0 then some (.int .i64 0, st) else
      match da, sa with
      | some da, some sa => match st.blk da.block, cellsAt w0 st sa (min sn dn * sz) with
        | some (.cells cs ty), some vs => if da.spot = none ∧ da.off + min sn dn * sz ≤ cs.length then
            some (.int .i64 (min sn dn : Nat), st.set da.block (.cells (cs.take da.off ++ vs ++ cs.drop (da.off + min sn dn * sz)) ty)) else none
        | _, _ => none
      | _, _ => none
    | _, _ => none
  | .mapset str m k v => match evalO env m, evalO env k, evalO env v with
    | some (.map (some b)), some k, some v => match st.blk b with
      | some (.map es) =>
        if atom k = true then
          match findD str k es 0 with
          | some (some (i, _)) => some (undef, st.set b (.map (es.set i (k, v))))
          | some none => some (undef, st.set b (.map (es ++ [(k, v)])))
          | none => none
        else none
      | _ => none
    | _, _, _ => none
  | .next x => match evalO env x with
    | some (.pointer (some a)) => match st.blk a.block with
      | some (.iter s pos) =>
        if a.off = 0 ∧ a.spot = none then
          if pos < s.size then some (.tuple #[.bool true, .int .i64 pos, .int .i32 (Utf8.decode s pos).1], st.set a.block (.iter s (pos + (Utf8.decode s pos).2)))
          else some (.tuple #[.bool false], st)
        else none
      | _ => none
    | _ => none

def copH : Op → Option HOp
  | .store t x v => (P.info? t).map fun i => .store i.size x v
  | .call c => match c.callee, c.args.toList, c.argTypes.toList with
    | .builtin .append, [s, x], [t, u] => (match P.underlying t with
      | some (.slice e) => (match P.info? e, zeroOf P e with
        | some i, some z => (match cellsQ z with
          | some zs => if zs.all atom ∧ zs.length = i.size ∧ 0 < i.size then
              (match P.underlying u with
              | some (.slice _) => some (.append e i.size i.bytes s x)
              | some (.int _) => some (.appendZ e i.size i.bytes zs s x)
              | _ => none)
            else none
          | none => none)
        | _, _ => none)
      | _ => none)
    | .builtin .copy, [d, s], t :: _ => (match P.underlying t with
      | some (.slice e) => (P.info? e).map fun i => .copy i.size d s
      | _ => none)
    | _, _, _ => none
  | .mapUpdate t m k v | .insert t m k v => match P.underlying t with
    | some (.map kt _) => (match P.underlying kt with
      | some .string => some (.mapset true m k v)
      | some (.int _) => some (.mapset false m k v)
      | _ => none)
    | _ => none
  | .next x true => some (.next x)
  | _ => none

variable {P w0}

/-- What a run comes to. -/
def HGoes (P : Program) (w0 : World) (μ : Mp) (st : St) (w : World) (s : Sem Next) (v : Value) (st' : St) : Prop :=
  ∃ r v' w' μ', s.run P w = .ok r w' ∧ (r = .value v' ∨ (r = .skip ∧ v' = undef)) ∧ VRel P w0.heap.size μ' v v' ∧ Sim P w0 μ' st' w' ∧ Ext μ μ' ∧ Keep μ st μ' st'

theorem Keep.set {μ : Mp} {st : St} {b : Nat} {m : Loc} (hm : μ b = some m) (bk : Blk) : Keep μ st μ (st.set b bk) :=
  ⟨Nat.le_refl _, fun i hi hn => ⟨hn, by
    have : i ≠ b := by intro e; subst e; rw [hm] at hn; cases hn
    simp [St.set, this]⟩⟩

theorem ptr_own {μ : Mp} {st : St} {w : World} (hs : Sim P w0 μ st w) {a : Addr} {v' : Value} (h : VRel P w0.heap.size μ (.pointer (some a)) v') {bk : Blk} (hb : st.blk a.block = some bk) :
    ∃ m, μ a.block = some m ∧ a.spot = none ∧ v' = .pointer (some ⟨m.blk, m.base + a.off, none⟩) := by
  rcases h.ptr_inv with ⟨_, hlt⟩ | h
  · rw [hs.hi _ hlt] at hb; cases hb
  · exact h

theorem store_sound {μ : Mp} {st : St} {w : World} (hs : Sim P w0 μ st w) {t : TypeId} {i : TypeInfo} (hi : P.info? t = some i) {a : Addr} {X V v : Value} (hx : VRel P w0.heap.size μ (.pointer (some a)) X)
    (hv : VRel P w0.heap.size μ v V) {vs cs : List Value} {ty : TypeId} (hq : cellsQ v = some vs) (hl : vs.length = i.size) (hb : st.blk a.block = some (.cells cs ty)) (hle : a.off + i.size ≤ cs.length) :
    HGoes P w0 μ st w (do Instr.storeAt t X V; pure .skip) undef (st.set a.block (.cells (cs.take a.off ++ vs ++ cs.drop (a.off + i.size)) ty)) := by
  obtain ⟨m, hm, hsp, rfl⟩ := ptr_own hs hx hb
  have hrel := cellsQ_rel hv hq
  obtain ⟨o, ho, hat⟩ := hs.at hb hm
  cases o <;> try (exact hat.elim)
  rename_i arr ty' fr
  have hat' := hat
  obtain ⟨h1, rfl, rfl, h4, h5, h6, h7⟩ := hat
  have hlen : V.cells.toList.length = i.size := by rw [← hrel.len, hl]
  have hrun := run_storeCells_at P m.blk (m.base + a.off) ty' V.cells.toList 0 arr w ho (by rw [hlen]; omega) hrel.one_of
  have hw := blkAt_write hat' hrel (off := a.off) (by rw [hl]; exact hle)
  rw [hl] at hw
  refine ⟨.skip, undef, w.setRow m.blk (arr.toList.take (m.base + a.off) ++ V.cells.toList ++ arr.toList.drop (m.base + a.off + V.cells.toList.length)).toArray, μ, ?_, .inr ⟨rfl, rfl⟩, VRel.undef, ?_, Ext.refl _, Keep.set hm _⟩
  · simp only [Instr.storeAt, Instr.sureAddr, pure_bind, storeVar, Sem.run_bind, run_size hi, Result.andThen_ok]
    rw [if_neg (by simp at hlen ⊢; exact hlen)]
    rw [hrun]; rfl
  · refine hs.put hm (by rw [hb]; rfl) hw (by simp) (fun j => ?_) rfl rfl rfl
    exact heap_setRow w m.blk _ arr ty' (0, 0) ho j

theorem newCells_sound {μ : Mp} {st : St} {w : World} (hs : Sim P w0 μ st w) {x X : Value} (hx : VRel P w0.heap.size μ x X) {sz m : Nat} {new : List Value} (hn : newCells w0 st sz x = some (m, new)) :
    ∃ xa xn xc new', X = .slice xa xn xc ∧ xn = m ∧ new.length = m * sz ∧ RelC P w0.heap.size μ new new' ∧
      (∀ w1 : World, (∀ a : Addr, w1.cell? a = w.cell? a) → (Builtin.firstCells sz m X).run P w1 = .ok new'.toArray w1) := by
  cases x with
  | slice xa n c =>
    cases xa with
    | none =>
      simp only [newCells] at hn
      split at hn
      · rename_i h0
        subst h0
        simp only [Option.some.injEq, Prod.mk.injEq] at hn
        obtain ⟨rfl, rfl⟩ := hn
        have : X = .slice none 0 c := hx.atom_eq rfl
        subst this
        exact ⟨none, 0, c, [], rfl, rfl, by simp, ⟨rfl, by simp, by simp⟩, fun w1 _ => by simp [Builtin.firstCells]⟩
      · cases hn
    | some a =>
      simp only [newCells] at hn
      obtain ⟨a', c', rfl, hp⟩ := slice_inv hx
      split at hn
      · rename_i h0
        subst h0
        simp only [Option.some.injEq, Prod.mk.injEq] at hn
        obtain ⟨rfl, rfl⟩ := hn
        exact ⟨some a', 0, c', [], rfl, rfl, by simp, ⟨rfl, by simp, by simp⟩, fun w1 _ => by simp [Builtin.firstCells, loadCells, loadCellsFrom]⟩
      · rename_i h0
        cases hc : cellsAt w0 st a (n * sz) with
        | none => simp [hc] at hn
        | some cs =>
          simp only [hc, Option.map_some, Option.some.injEq, Prod.mk.injEq] at hn
          obtain ⟨rfl, rfl⟩ := hn
          obtain ⟨a'', cs', e, hl, hl', hcell, hrel, hone⟩ := cellsAt_sound hs (hp (by omega)) hc
          cases e
          refine ⟨some a', n, c', cs', rfl, rfl, hl, ⟨by rw [hl, hl'], hrel, hone⟩, fun w1 hw1 => ?_⟩
          have := run_firstCells_some (P := P) w1 sz n a' n c' cs' hl' (fun j v hj => by rw [hw1]; exact hcell j v hj)
          exact this
  | _ => simp [newCells] at hn

theorem zeroCells_eq (zs : List Value) (n : Nat) : Builtin.zeroCells zs.toArray n = (zeros n zs).toArray := by
  have := range_zeros zs n
  simp only [Builtin.zeroCells, List.size_toArray] at this ⊢
  exact this

/-- A new row that an append makes. -/
theorem grow_fin {μ : Mp} {st : St} {w : World} (hs : Sim P w0 μ st w) {e : TypeId} {sz : Nat} {zs : List Value} (hzl : zs.length = sz) (hce : P.cellsOf e = sz)
    {k : Nat} {all all' : List Value} (hl : all.length = k * sz) (hrel : RelC P w0.heap.size μ all all') {cap : Nat} (hcap : k ≤ cap) :
    Sim P w0 (upd μ st.next ⟨w.heap.size, 0, cap * sz, e⟩) (st.alloc (.cells all e)) (w.drew.alloc (.cells (all'.toArray ++ (zeros (cap - k) zs).toArray) e)) ∧
    VRel P w0.heap.size (upd μ st.next ⟨w.heap.size, 0, cap * sz, e⟩) (.slice (some ⟨st.next, 0, none⟩) k sz) (.slice (some ⟨w.heap.size, 0, none⟩) k cap) ∧
    Ext μ (upd μ st.next ⟨w.heap.size, 0, cap * sz, e⟩) := by
  have hl' : all'.length = k * sz := by rw [← hrel.len, hl]
  have harr : (all'.toArray ++ (zeros (cap - k) zs).toArray : Array Value).size = cap * sz := by
    simp only [Array.size_append, List.size_toArray, zeros_length, hzl, hl']
    rw [← Nat.add_mul]
    congr 1; omega
  have hb : BlkAt P w0.heap.size μ ⟨w.heap.size, 0, cap * sz, e⟩ (.cells all e) (.cells (all'.toArray ++ (zeros (cap - k) zs).toArray) e (0, 0)) := by
    refine ⟨rfl, rfl, rfl, harr, ?_, ?_, hrel.one⟩
    · simp only [Nat.zero_add]
      rw [hl]; exact Nat.mul_le_mul_right _ hcap
    · intro j u hj
      have hlt : j < all'.length := by rw [← hrel.len]; exact (List.getElem?_eq_some_iff.1 hj).1
      refine ⟨all'[j], ?_, hrel.rel _ _ _ hj (by simp [hlt])⟩
      simp only [Nat.zero_add]
      rw [Array.getElem?_append_left (by simpa using hlt)]
      simp [hlt]
  have hsim := (Sim.drew hs)
  have hold : Sim P w0 μ st (w.drew.alloc (.cells (all'.toArray ++ (zeros (cap - k) zs).toArray) e)) := by
    refine Sim.of (hsim.old.alloc hsim.old.size _) hs.next hs.fresh (fun b mm hmm => ?_) hs.hi (fun b bk mm hb' hmm => ?_) hs.inj
    · have := hs.lo b mm hmm
      exact ⟨this.1, this.2.1, Nat.lt_of_lt_of_eq (Nat.lt_succ_of_lt this.2.2) (World.size_alloc ..).symm⟩
    · obtain ⟨o, h1, h2⟩ := hs.at hb' hmm
      have := (hs.lo b mm hmm).2.2
      refine ⟨o, ?_, h2⟩
      rw [heap_push, if_neg (by show mm.blk ≠ w.heap.size; omega)]; exact h1
  refine ⟨hold.new (m := ⟨w.heap.size, 0, cap * sz, e⟩) (by rw [heap_push]; exact if_pos rfl) hs.old.size hb
    (fun b m' _ hm' => by have := (hs.lo b m' hm').2.2; simp only; omega), ?_, Ext.upd (hs.fresh _ (Nat.le_refl _)).1 _⟩
  have := VRel.slice (P := P) (n0 := w0.heap.size) (μ := upd μ st.next ⟨w.heap.size, 0, cap * sz, e⟩) st.next 0 k sz cap _ (upd_self _ _ _) hcap
    (fun _ => ⟨hce.symm, by simp⟩)
  simpa using this

/-- The model's append, whatever the new cells come of. -/
theorem append_sound {μ : Mp} {st : St} {w : World} (hs : Sim P w0 μ st w) {t e : TypeId} {i : TypeInfo} {z : Value} {zs : List Value} (hu : P.underlying t = some (.slice e)) (hi : P.info? e = some i)
    (hz : zeroOf P e = some z) (hq : cellsQ z = some zs) (hall : zs.all V.atom = true) (hzl : zs.length = i.size) (hpos : 0 < i.size)
    {s S : Value} (hss : VRel P w0.heap.size μ s S) {m : Nat} {new new' : List Value} (hln : new.length = m * i.size) (hnew : RelC P w0.heap.size μ new new')
    {v : Value} {st' : St} (he : appendV w0.heap.size st e i.size i.bytes s m new = some (v, st'))
    (run : Sem Value) (hroomN : ∀ n c, S = .slice none n c → n + m ≤ c → run.run P w = .ok (.slice none (n + m) c) w)
    (hroom : ∀ a n c, S = .slice (some a) n c → n + m ≤ c → run.run P w = (do storeCells (a.add (n * i.size)) new'; pure (.slice (some a) (n + m) c) : Sem Value).run P w)
    (hgrow : ∀ base n c old, S = .slice base n c → c < n + m → n + m < 9223372036854775807 → (n + m) * i.bytes ≤ 140737488355328 →
      (Builtin.firstCells i.size n S).run P w.drew = .ok old w.drew → run.run P w =
        .ok (.slice (some ⟨w.heap.size, 0, none⟩) (n + m) (grownCap w (n + m) c e)) (w.drew.alloc (.cells (old ++ new'.toArray ++ (zeros (grownCap w (n + m) c e - (n + m)) zs).toArray) e))) :
    ∃ v' w' μ', run.run P w = .ok v' w' ∧ VRel P w0.heap.size μ' v v' ∧ Sim P w0 μ' st' w' ∧ Ext μ μ' ∧ Keep μ st μ' st' := by
  have hce := info_cells hi
  have hln' : new'.length = m * i.size := by rw [← hnew.len, hln]
  cases s with
  | slice sa n c =>
    cases sa with
    | none =>
      have hS : S = .slice none n c := hss.atom_eq rfl
      subst hS
      simp only [appendV] at he
      split at he
      · rename_i hc
        obtain ⟨rfl, rfl, hby, hlt⟩ := hc
        split at he
        · rename_i h0
          subst h0
          cases he
          refine ⟨.slice none 0 0, w, μ, ?_, .atom _ rfl, hs, Ext.refl _, Keep.refl _ _⟩
          simpa using hroomN 0 0 rfl (by omega)
        · rename_i h0
          cases he
          have hg := hgrow none 0 0 #[] rfl (by omega) (by omega) (by simpa using hby) (by simp [Builtin.firstCells])
          have hcap := grownCap_ge w (0 + m) 0 e
          obtain ⟨g1, g2, g3⟩ := grow_fin hs hzl hce hln hnew (cap := grownCap w (0 + m) 0 e) (by omega)
          have hA : (#[] ++ new'.toArray ++ (zeros (grownCap w (0 + m) 0 e - (0 + m)) zs).toArray : Array Value) = new'.toArray ++ (zeros (grownCap w (0 + m) 0 e - m) zs).toArray := by simp
          rw [hA, Nat.zero_add] at hg
          rw [Nat.zero_add] at g1 g2 g3
          refine ⟨_, _, _, hg, g2, g1, g3, ⟨Nat.le_succ _, ?_⟩⟩
          intro b hb' hn
          have hne : b ≠ st.next := by omega
          exact ⟨by rw [upd_other _ _ hne]; exact hn, by simp [St.alloc, hne]⟩
      · cases he
    | some a =>
      simp only [appendV] at he
      split at he
      · cases he
      · rename_i hnb
        split at he
        · rename_i hc
          obtain ⟨rfl, hsp, hby, hlt⟩ := hc
          split at he
          · rename_i h0
            subst h0
            cases he
            have hn0 : new' = [] := by
              have : new'.length = 0 := by rw [hln']; simp
              exact List.length_eq_zero_iff.1 this
            subst hn0
            have hle : ∃ a' c', S = .slice (some a') n c' ∧ n ≤ c' := by
              cases hss with
              | atom _ h => simp [V.atom] at h
              | oldSlice _ _ _ h => exact absurd h hnb
              | slice b o _ _ c' mm hm h1 h2 => exact ⟨_, _, rfl, h1⟩
              | sliceE _ _ a' _ _ _ => exact ⟨_, _, rfl, Nat.le_refl _⟩
            obtain ⟨a', c', rfl, hle⟩ := hle
            refine ⟨.slice (some a') n c', w, μ, ?_, hss, hs, Ext.refl _, Keep.refl _ _⟩
            rw [hroom a' n c' rfl (by omega)]
            simp [storeCells]
          · rename_i h0
            split at he
            · rename_i cs ty hb
              split at he
              · rename_i hend
                obtain ⟨rfl, hend⟩ := hend
                cases he
                have hmb : ∀ b mm, (((st.kill a.block).blk b).isSome = true) → μ b = some mm → b ≠ a.block := by
                  intro b mm h _ e
                  subst e
                  simp [St.kill] at h
                -- the concrete slice
                cases hss with
                | atom _ h => simp [V.atom] at h
                | oldSlice _ _ _ h => exact absurd h hnb
                | slice b o _ _ c' mm hm h1 h2 =>
                  obtain ⟨_, hfit⟩ := h2 (by omega)
                  obtain ⟨ob, hob, hat⟩ := hs.at hb hm
                  cases ob <;> try (exact hat.elim)
                  rename_i arr ty' fr
                  have hat' := hat
                  obtain ⟨k1, rfl, rfl, k4, k5, k6, k7⟩ := hat
                  simp only at hb hend hnb hsp
                  by_cases hin : n + m ≤ c'
                  · -- in place
                    have hfits : mm.base + o + n * i.size + new'.length ≤ arr.size := by
                      rw [hln', k4]
                      have : (n + m) * i.size ≤ c' * i.size := Nat.mul_le_mul_right _ hin
                      rw [Nat.add_mul] at this
                      omega
                    have hst := run_storeCells_at P mm.blk (mm.base + o + n * i.size) ty' new' 0 arr w hob (by simpa using hfits) hnew.one_of
                    have hrun := hroom ⟨mm.blk, mm.base + o, none⟩ n c' rfl hin
                    simp only [addr_add, Sem.run_bind, hst, Result.andThen_ok, Sem.run_pure, Nat.add_zero] at hrun
                    generalize hW : w.setRow mm.blk (arr.toList.take (mm.base + o + n * i.size) ++ new' ++ arr.toList.drop (mm.base + o + n * i.size + new'.length)).toArray = W at hrun
                    generalize hA : (arr.toList.take (mm.base + o + n * i.size) ++ new' ++ arr.toList.drop (mm.base + o + n * i.size + new'.length)).toArray = A at hW
                    have hAsz : A.size = mm.size := by rw [← hA, ← k4]; simp; omega
                    have hheap : ∀ j, W.heap[j]? = if j = mm.blk then some (.cells A ty' (0, 0)) else w.heap[j]? := by
                      intro j; rw [← hW]; exact heap_setRow w mm.blk A arr ty' (0, 0) hob j
                    have hWs : W.heap.size = w.heap.size := by rw [← hW]; simp
                    have hlo := hs.lo b mm hm
                    have hkill : Sim P w0 μ (st.kill b) W := by
                      have hk := hs.kill b
                      refine Sim.of ⟨by rw [← hW]; exact hs.old.os, by rw [← hW]; exact hs.old.tape, by rw [← hW]; exact hs.old.output, by rw [hWs]; exact hs.old.size, ?_⟩ hk.next hk.fresh ?_ hk.hi ?_ hk.inj
                      · intro k hk'
                        rw [hheap, if_neg (by omega)]
                        exact hs.old.block k hk'
                      · intro j mj hj; rw [hWs]; exact hs.lo j mj hj
                      · intro j bk mj hj hmj
                        obtain ⟨o', q1, q2⟩ := hk.at hj hmj
                        have hne : j ≠ b := hmb j mj (by rw [hj]; rfl) hmj
                        have hj' : st.blk j = some bk := by simpa [St.kill, hne] using hj
                        refine ⟨o', ?_, q2⟩
                        rw [hheap, if_neg]
                        · exact q1
                        · intro e
                          exact hne (hs.inj j b mj mm (by rw [hj']; rfl) (by rw [hb]; rfl) hmj hm e)
                    have hcs : (cs.drop o).length = n * i.size := by simp; omega
                    have hnb' : BlkAt P w0.heap.size μ ⟨mm.blk, mm.base + o, mm.size, ty'⟩ (.cells (cs.drop o ++ new) ty') (.cells A ty' (0, 0)) := by
                      refine ⟨rfl, rfl, rfl, hAsz, ?_, ?_, ?_⟩
                      · simp only [List.length_append, hcs, hln]
                        rw [hln'] at hfits; rw [← k4]; omega
                      · intro j u hj
                        rw [List.getElem?_append] at hj
                        split at hj
                        · rename_i hjn
                          rw [List.getElem?_drop] at hj
                          obtain ⟨u', q1, q2⟩ := k6 _ _ hj
                          refine ⟨u', ?_, q2⟩
                          rw [← hA]
                          simp only [List.getElem?_toArray]
                          rw [List.getElem?_append, if_pos (by simp; omega), List.getElem?_append, if_pos (by simp; omega), List.getElem?_take, if_pos (by omega)]
                          rw [show mm.base + o + j = mm.base + (o + j) by omega]
                          simpa using q1
                        · rename_i hjn
                          rw [hcs] at hj hjn
                          have hlt : j - n * i.size < new'.length := by rw [← hnew.len]; exact (List.getElem?_eq_some_iff.1 hj).1
                          refine ⟨new'[j - n * i.size], ?_, hnew.rel _ _ _ hj (by simp [hlt])⟩
                          rw [← hA]
                          simp only [List.getElem?_toArray]
                          rw [List.getElem?_append, if_pos (by simp; omega), List.getElem?_append, if_neg (by simp; omega)]
                          simp only [List.length_take, Array.length_toList]
                          rw [show min (mm.base + o + n * i.size) arr.size = mm.base + o + n * i.size by omega]
                          rw [show mm.base + o + j - (mm.base + o + n * i.size) = j - n * i.size by omega]
                          simp [hlt]
                      · intro u hu'
                        rcases List.mem_append.1 hu' with h | h
                        · exact k7 u (List.mem_of_mem_drop h)
                        · exact hnew.one u h
                    have hfin := hkill.new (m := ⟨mm.blk, mm.base + o, mm.size, ty'⟩) (by rw [hheap]; exact if_pos rfl) hlo.2.1 hnb'
                      (fun j mj hj hmj e => by
                        have hne : j ≠ b := hmb j mj hj hmj
                        have hj' : (st.blk j).isSome = true := by simpa [St.kill, hne] using hj
                        exact hne (hs.inj j b mj mm hj' (by rw [hb]; rfl) hmj hm e))
                    refine ⟨_, _, _, hrun, ?_, hfin, Ext.upd (hs.fresh _ (Nat.le_refl _)).1 _, ⟨Nat.le_succ _, ?_⟩⟩
                    · have := VRel.slice (P := P) (n0 := w0.heap.size) (μ := upd μ st.next ⟨mm.blk, mm.base + o, mm.size, ty'⟩) st.next 0 (n + m) i.size c' _ (upd_self _ _ _) hin
                        (fun _ => ⟨hce.symm, by simpa using hfit⟩)
                      simp only [Nat.add_zero] at this
                      exact this
                    · intro j hj hn
                      have hne : j ≠ st.next := by omega
                      have hne' : j ≠ b := by intro e'; subst e'; rw [hm] at hn; cases hn
                      exact ⟨(upd_other (b := st.next) _ _ hne).trans hn, by simp [St.alloc, St.kill, hne, hne']⟩
                  · -- a new row
                    have hcs : (cs.drop o).length = n * i.size := by simp; omega
                    have hrelo : RelC P w0.heap.size μ (cs.drop o) ((arr.toList.drop (mm.base + o)).take (n * i.size)) := by
                      refine ⟨by simp; omega, ?_, fun u hu' => k7 u (List.mem_of_mem_drop hu')⟩
                      intro j x y hx hy
                      rw [List.getElem?_drop] at hx
                      rw [List.getElem?_take] at hy
                      split at hy
                      · rw [List.getElem?_drop] at hy
                        obtain ⟨u', q1, q2⟩ := k6 _ _ hx
                        rw [show mm.base + (o + j) = mm.base + o + j by omega] at q1
                        simp only [Array.getElem?_toList] at hy
                        rw [q1] at hy; cases hy
                        exact q2
                      · cases hy
                    have hfirst : (Builtin.firstCells i.size n (.slice (some ⟨mm.blk, mm.base + o, none⟩) n c')).run P w.drew = .ok ((arr.toList.drop (mm.base + o)).take (n * i.size)).toArray w.drew := by
                      refine run_firstCells_some (P := P) w.drew i.size n _ n c' _ (by rw [← hrelo.len, hcs]) ?_
                      intro j u hj
                      rw [List.getElem?_take] at hj
                      split at hj
                      · rw [List.getElem?_drop] at hj
                        rw [addr_add]
                        rw [World.cell?_drew]
                        simp only [World.cell?, hob, Option.isSome_none, Bool.false_eq_true, if_false]
                        simpa using hj
                      · cases hj
                    have hg := hgrow (some ⟨mm.blk, mm.base + o, none⟩) n c' _ rfl (by omega) hlt hby hfirst
                    have hcap := grownCap_ge w (n + m) c' ty'
                    obtain ⟨g1, g2, g3⟩ := grow_fin (hs.kill b) hzl hce (k := n + m) (all := cs.drop o ++ new) (by rw [List.length_append, hcs, hln, Nat.add_mul]) (hrelo.append hnew) hcap
                    rw [show (((arr.toList.drop (mm.base + o)).take (n * i.size)).toArray ++ new'.toArray : Array Value) = ((arr.toList.drop (mm.base + o)).take (n * i.size) ++ new').toArray by simp] at hg
                    refine ⟨_, _, _, hg, g2, g1, g3, ⟨Nat.le_succ _, ?_⟩⟩
                    intro j hj hn
                    have hne : j ≠ (st.kill b).next := by simp only [St.kill]; omega
                    have hne' : j ≠ b := by intro e'; subst e'; rw [hm] at hn; cases hn
                    exact ⟨(upd_other _ _ hne).trans hn, by
                      have : j ≠ st.next := by omega
                      simp [St.alloc, St.kill, this, hne']⟩
                | sliceE b o a' _ mm hm =>
                  simp only [Nat.zero_mul, Nat.add_zero] at hend
                  have hdrop : cs.drop o = [] := by rw [hend]; simp
                  have hg := hgrow (some a') 0 0 #[] rfl (by omega) hlt hby (by simp [Builtin.firstCells, loadCells, loadCellsFrom])
                  have hcap := grownCap_ge w (0 + m) 0 ty
                  obtain ⟨g1, g2, g3⟩ := grow_fin (hs.kill b) hzl hce (k := 0 + m) (all := cs.drop o ++ new) (all' := new') (by rw [hdrop, List.nil_append, hln, Nat.zero_add]) (by rw [hdrop]; exact hnew) hcap
                  have hA : (#[] ++ new'.toArray ++ (zeros (grownCap w (0 + m) 0 ty - (0 + m)) zs).toArray : Array Value) = new'.toArray ++ (zeros (grownCap w (0 + m) 0 ty - (0 + m)) zs).toArray := by simp
                  rw [hA] at hg
                  refine ⟨_, _, _, hg, g2, g1, g3, ⟨Nat.le_succ _, ?_⟩⟩
                  intro j hj hn
                  have hne : j ≠ (st.kill b).next := by simp only [St.kill]; omega
                  have hne' : j ≠ b := by intro e'; subst e'; rw [hm] at hn; cases hn
                  exact ⟨(upd_other _ _ hne).trans hn, by
                    have : j ≠ st.next := by omega
                    simp [St.alloc, St.kill, this, hne']⟩
              · cases he
            · cases he
        · cases he
  | _ => simp [appendV] at he

end
end Go.Proofs.Ytnndjlgkhfinjaa.V
