/-
  The abstract semantics 'V', part 17: one law for each kind of operation, for whoever walks a region step by step.
-/
import Derived.Test.YtnndjlgkhfinjaaV16
set_option linter.all false
set_option linter.unusedSimpArgs false
set_option linter.unusedVariables false
set_option linter.unnecessarySimpa false
namespace Go.Proofs.Ytnndjlgkhfinjaa.V
open Go Go.RowKit

section
variable {P : Program} {w0 : World} {K : Env → St → Prop} {env : Env} {st : St} {rest : List ROp} {d : Nat} {q : Bool} {ks : List LOp}

theorem wr_nil (h : K env st) : wpR P w0 [] K env st := h

theorem wr_light {l : LOp} {v : Value} (h : l.eval P w0 env st = some v) (k : wpR P w0 rest K ((d, v) :: env) st) : wpR P w0 (⟨some d, none, .light l, q, ks⟩ :: rest) K env st := by
  simp only [wpR, guardOf, guardV_true, COp.step, h, putE]; exact k

theorem wr_guard {t : Nat} {want b : Bool} {r : ROp} (hr : r.guard = some (t, want)) (ht : env.lookup t = some (.bool b))
    (h1 : b = want → wpR P w0 (⟨r.dst, none, r.op, r.quiet, r.keeps⟩ :: rest) K env st) (h2 : b ≠ want → wpR P w0 rest K (putE r.dst undef env) st) : wpR P w0 (r :: rest) K env st := by
  simp only [wpR, hr, guardOf, ht, guardV]
  simp only [wpR, guardOf, guardV_true] at h1
  exact ⟨fun h => h1 (by simpa using h), fun h => h2 (by simpa using h)⟩

theorem wr_guard_undef {t : Nat} {want : Bool} {r : ROp} {vs : Array Value} (hr : r.guard = some (t, want)) (ht : env.lookup t = some (.tuple vs))
    (h2 : wpR P w0 rest K (putE r.dst undef env) st) : wpR P w0 (r :: rest) K env st := by
  simp only [wpR, hr, guardOf, ht, guardV]
  exact ⟨fun h => by simp at h, fun _ => h2⟩

theorem wr_mov {x : Operand} {v : Value} (h : evalO env x = some v) (k : wpR P w0 rest K ((d, v) :: env) st) : wpR P w0 (⟨some d, none, .light (.mov x), q, ks⟩ :: rest) K env st :=
  wr_light h k
theorem wr_pick_t {c x y : Operand} {v : Value} (hc : evalO env c = some (.bool true)) (h : evalO env x = some v) (k : wpR P w0 rest K ((d, v) :: env) st) :
    wpR P w0 (⟨some d, none, .light (.pick c x y), q, ks⟩ :: rest) K env st := wr_light (by simp [LOp.eval, hc, h]) k
theorem wr_pick_f {c x y : Operand} {v : Value} (hc : evalO env c = some (.bool false)) (h : evalO env y = some v) (k : wpR P w0 rest K ((d, v) :: env) st) :
    wpR P w0 (⟨some d, none, .light (.pick c x y), q, ks⟩ :: rest) K env st := wr_light (by simp [LOp.eval, hc, h]) k
/-- Both ways are truths. -/
theorem wr_pick_bool {c x y : Operand} {t a b : Bool} (hc : evalO env c = some (.bool t)) (hx : evalO env x = some (.bool a)) (hy : evalO env y = some (.bool b)) (k : wpR P w0 rest K ((d, .bool (if t then a else b)) :: env) st) :
    wpR P w0 (⟨some d, none, .light (.pick c x y), q, ks⟩ :: rest) K env st := wr_light (by simp only [LOp.eval, hc, hx, hy]; cases t <;> rfl) k
/-- 'and': the second is looked at only if the first holds. -/
theorem wr_and {c x y : Operand} {t b : Bool} {u : Value} (hc : evalO env c = some (.bool t)) (hx : evalO env x = some u) (hy : evalO env y = some (.bool false)) (hb : t = true → u = .bool b) (k : wpR P w0 rest K ((d, .bool (t && b)) :: env) st) :
    wpR P w0 (⟨some d, none, .light (.pick c x y), q, ks⟩ :: rest) K env st := wr_light (by simp only [LOp.eval, hc, hx, hy]; cases t <;> simp_all) k
theorem wr_or {c x y : Operand} {t b : Bool} {u : Value} (hc : evalO env c = some (.bool t)) (hx : evalO env x = some (.bool true)) (hy : evalO env y = some u) (hb : t = false → u = .bool b) (k : wpR P w0 rest K ((d, .bool (t || b)) :: env) st) :
    wpR P w0 (⟨some d, none, .light (.pick c x y), q, ks⟩ :: rest) K env st := wr_light (by simp only [LOp.eval, hc, hx, hy]; cases t <;> simp_all) k

section bins
variable {t : TypeId} {x y : Operand} {a b : Int} {j : IntKind}
theorem bin_eval {op : BinOp} {va vb v : Value} (hx : evalO env x = some va) (hy : evalO env y = some vb) (hf : (flatV va && flatV vb) = true) (h : pureF P (do eqGuard op t x y va vb; binOp op t va vb) = some v) :
    (LOp.bin op t x y).eval P w0 env st = some v := by simp only [LOp.eval, hx, hy, hf, if_true]; exact h
theorem wr_add (hx : evalO env x = some (.int .i64 a)) (hy : evalO env y = some (.int .i64 b)) (h : -9223372036854775808 ≤ a + b ∧ a + b ≤ 9223372036854775807) (k : wpR P w0 rest K ((d, .int .i64 (a + b)) :: env) st) :
    wpR P w0 (⟨some d, none, .light (.bin .add t x y), q, ks⟩ :: rest) K env st := wr_light (bin_eval hx hy rfl (by rw [bin_add, w64 h])) k
theorem wr_sub (hx : evalO env x = some (.int .i64 a)) (hy : evalO env y = some (.int .i64 b)) (h : -9223372036854775808 ≤ a - b ∧ a - b ≤ 9223372036854775807) (k : wpR P w0 rest K ((d, .int .i64 (a - b)) :: env) st) :
    wpR P w0 (⟨some d, none, .light (.bin .sub t x y), q, ks⟩ :: rest) K env st := wr_light (bin_eval hx hy rfl (by rw [bin_sub, w64 h])) k
theorem wr_mul (hx : evalO env x = some (.int .i64 a)) (hy : evalO env y = some (.int .i64 b)) (h : -9223372036854775808 ≤ a * b ∧ a * b ≤ 9223372036854775807) (k : wpR P w0 rest K ((d, .int .i64 (a * b)) :: env) st) :
    wpR P w0 (⟨some d, none, .light (.bin .mul t x y), q, ks⟩ :: rest) K env st := wr_light (bin_eval hx hy rfl (by rw [bin_mul, w64 h])) k
theorem wr_addw (hx : evalO env x = some (.int j a)) (hy : evalO env y = some (.int j b)) (k : wpR P w0 rest K ((d, .int j (j.wrap (a + b))) :: env) st) :
    wpR P w0 (⟨some d, none, .light (.bin .add t x y), q, ks⟩ :: rest) K env st := by
  have hy' := hy
  exact wr_light (bin_eval hx hy' rfl (bin_add ..)) k
theorem wr_subw (hx : evalO env x = some (.int j a)) (hy : evalO env y = some (.int j b)) (k : wpR P w0 rest K ((d, .int j (j.wrap (a - b))) :: env) st) :
    wpR P w0 (⟨some d, none, .light (.bin .sub t x y), q, ks⟩ :: rest) K env st := wr_light (bin_eval hx hy rfl (bin_sub ..)) k
theorem wr_mulw (hx : evalO env x = some (.int j a)) (hy : evalO env y = some (.int j b)) (k : wpR P w0 rest K ((d, .int j (j.wrap (a * b))) :: env) st) :
    wpR P w0 (⟨some d, none, .light (.bin .mul t x y), q, ks⟩ :: rest) K env st := wr_light (bin_eval hx hy rfl (bin_mul ..)) k
theorem wr_rem (hx : evalO env x = some (.int j a)) (hy : evalO env y = some (.int j b)) (h : 0 ≤ a ∧ 0 < b) (k : wpR P w0 rest K ((d, .int j (a % b)) :: env) st) :
    wpR P w0 (⟨some d, none, .light (.bin .rem t x y), q, ks⟩ :: rest) K env st := wr_light (bin_eval hx hy rfl (by rw [bin_rem _ _ _ _ _ _ _ (by omega), Int.tmod_eq_emod_of_nonneg h.1])) k
theorem wr_remt (hx : evalO env x = some (.int j a)) (hy : evalO env y = some (.int j b)) (h : b ≠ 0) (k : wpR P w0 rest K ((d, .int j (a.tmod b)) :: env) st) :
    wpR P w0 (⟨some d, none, .light (.bin .rem t x y), q, ks⟩ :: rest) K env st := wr_light (bin_eval hx hy rfl (bin_rem _ _ _ _ _ _ _ h)) k
theorem wr_quo (hx : evalO env x = some (.int .i64 a)) (hy : evalO env y = some (.int .i64 b)) (h : 0 ≤ a ∧ 0 < b ∧ a ≤ 9223372036854775807) (k : wpR P w0 rest K ((d, .int .i64 (a / b)) :: env) st) :
    wpR P w0 (⟨some d, none, .light (.bin .quo t x y), q, ks⟩ :: rest) K env st :=
  wr_light (bin_eval hx hy rfl (by
    rw [bin_quo _ _ _ _ _ _ _ (by omega), Int.tdiv_eq_ediv_of_nonneg h.1, w64]
    have h1 := Int.ediv_nonneg h.1 (Int.le_of_lt h.2.1)
    have h2 := Int.ediv_le_self b h.1
    omega)) k
theorem wr_eql (hx : evalO env x = some (.int j a)) (hy : evalO env y = some (.int j b)) (k : wpR P w0 rest K ((d, .bool (decide (a = b))) :: env) st) :
    wpR P w0 (⟨some d, none, .light (.bin .eql t x y), q, ks⟩ :: rest) K env st := wr_light (bin_eval hx hy rfl (bin_eql ..)) k
theorem wr_neq (hx : evalO env x = some (.int j a)) (hy : evalO env y = some (.int j b)) (k : wpR P w0 rest K ((d, .bool (decide (a ≠ b))) :: env) st) :
    wpR P w0 (⟨some d, none, .light (.bin .neq t x y), q, ks⟩ :: rest) K env st := wr_light (bin_eval hx hy rfl (bin_neq ..)) k
theorem wr_lss (hx : evalO env x = some (.int j a)) (hy : evalO env y = some (.int j b)) (k : wpR P w0 rest K ((d, .bool (decide (a < b))) :: env) st) :
    wpR P w0 (⟨some d, none, .light (.bin .lss t x y), q, ks⟩ :: rest) K env st := wr_light (bin_eval hx hy rfl (bin_lss ..)) k
theorem wr_leq (hx : evalO env x = some (.int j a)) (hy : evalO env y = some (.int j b)) (k : wpR P w0 rest K ((d, .bool (decide (a ≤ b))) :: env) st) :
    wpR P w0 (⟨some d, none, .light (.bin .leq t x y), q, ks⟩ :: rest) K env st := wr_light (bin_eval hx hy rfl (bin_leq ..)) k
theorem wr_gtr (hx : evalO env x = some (.int j a)) (hy : evalO env y = some (.int j b)) (k : wpR P w0 rest K ((d, .bool (decide (b < a))) :: env) st) :
    wpR P w0 (⟨some d, none, .light (.bin .gtr t x y), q, ks⟩ :: rest) K env st := wr_light (bin_eval hx hy rfl (bin_gtr ..)) k
theorem wr_geq (hx : evalO env x = some (.int j a)) (hy : evalO env y = some (.int j b)) (k : wpR P w0 rest K ((d, .bool (decide (b ≤ a))) :: env) st) :
    wpR P w0 (⟨some d, none, .light (.bin .geq t x y), q, ks⟩ :: rest) K env st := wr_light (bin_eval hx hy rfl (bin_geq ..)) k

theorem same_bytes (a b : ByteArray) : (a.toList == b.toList) = decide (a = b) := by
  rw [ByteArray.toList_eq, ByteArray.toList_eq]
  rw [Bool.eq_iff_iff]
  simp only [beq_iff_eq, decide_eq_true_eq]
  constructor
  · intro h
    cases a; cases b
    simp only [ByteArray.mk.injEq]
    exact Array.toList_inj.1 h
  · intro h; rw [h]
theorem bin_seq (a b : ByteArray) : pureF P (do eqGuard .eql t x y (.string a) (.string b); binOp .eql t (.string a) (.string b)) = some (.bool (decide (a = b))) :=
  bin_eq P t x y _ _ _ _ (guard_str ..) (by simp only [binOp, Op.stringOp, same_bytes]; rfl) rfl
theorem bin_sne (a b : ByteArray) : pureF P (do eqGuard .neq t x y (.string a) (.string b); binOp .neq t (.string a) (.string b)) = some (.bool (decide (a ≠ b))) :=
  bin_eq P t x y _ _ _ _ (guard_str ..) (by simp only [binOp, Op.stringOp, same_bytes, decide_not]; rfl) rfl
theorem wr_seq {a b : ByteArray} (hx : evalO env x = some (.string a)) (hy : evalO env y = some (.string b)) (k : wpR P w0 rest K ((d, .bool (decide (a = b))) :: env) st) :
    wpR P w0 (⟨some d, none, .light (.bin .eql t x y), q, ks⟩ :: rest) K env st := wr_light (bin_eval hx hy rfl (bin_seq ..)) k
theorem wr_sne {a b : ByteArray} (hx : evalO env x = some (.string a)) (hy : evalO env y = some (.string b)) (k : wpR P w0 rest K ((d, .bool (decide (a ≠ b))) :: env) st) :
    wpR P w0 (⟨some d, none, .light (.bin .neq t x y), q, ks⟩ :: rest) K env st := wr_light (bin_eval hx hy rfl (bin_sne ..)) k
end bins

theorem wr_not {x : Operand} {b : Bool} (hx : evalO env x = some (.bool b)) (k : wpR P w0 rest K ((d, .bool (!b)) :: env) st) :
    wpR P w0 (⟨some d, none, .light (.un .not x), q, ks⟩ :: rest) K env st := wr_light (by simp only [LOp.eval, hx]; exact un_not P b) k
theorem wr_neg {x : Operand} {a : Int} (hx : evalO env x = some (.int .i64 a)) (h : -9223372036854775808 < a ∧ a ≤ 9223372036854775807) (k : wpR P w0 rest K ((d, .int .i64 (-a)) :: env) st) :
    wpR P w0 (⟨some d, none, .light (.un .neg x), q, ks⟩ :: rest) K env st := wr_light (by
      simp only [LOp.eval, hx]
      refine Eq.trans (un_neg P .i64 a) ?_
      rw [w64 (by omega), Int.zero_sub]) k

section ptrs
variable {x y i : Operand} {b o n c sz : Nat} {a : Addr}
theorem wr_eq_some (hx : evalO env x = some (.pointer (some a))) (hy : evalO env y = some (.pointer none)) (k : wpR P w0 rest K ((d, .bool false) :: env) st) :
    wpR P w0 (⟨some d, none, .light (.eqp false x y), q, ks⟩ :: rest) K env st := wr_light (by simp [LOp.eval, hx, hy]) k
theorem wr_eq_nil (hx : evalO env x = some (.pointer none)) (hy : evalO env y = some (.pointer none)) (k : wpR P w0 rest K ((d, .bool true) :: env) st) :
    wpR P w0 (⟨some d, none, .light (.eqp false x y), q, ks⟩ :: rest) K env st := wr_light (by simp [LOp.eval, hx, hy]) k
theorem wr_ne_some (hx : evalO env x = some (.pointer (some a))) (hy : evalO env y = some (.pointer none)) (k : wpR P w0 rest K ((d, .bool true) :: env) st) :
    wpR P w0 (⟨some d, none, .light (.eqp true x y), q, ks⟩ :: rest) K env st := wr_light (by simp [LOp.eval, hx, hy]) k
theorem wr_ne_nil (hx : evalO env x = some (.pointer none)) (hy : evalO env y = some (.pointer none)) (k : wpR P w0 rest K ((d, .bool false) :: env) st) :
    wpR P w0 (⟨some d, none, .light (.eqp true x y), q, ks⟩ :: rest) K env st := wr_light (by simp [LOp.eval, hx, hy]) k
theorem wr_nilchk (hx : evalO env x = some (.pointer (some a))) (k : wpR P w0 rest K ((d, .pointer (some a)) :: env) st) :
    wpR P w0 (⟨some d, none, .light (.nilchk x), q, ks⟩ :: rest) K env st := wr_light (by simp [LOp.eval, hx]) k
theorem wr_fa {off : Nat} (hx : evalO env x = some (.pointer (some ⟨b, o, none⟩))) (k : wpR P w0 rest K ((d, .pointer (some ⟨b, o + off, none⟩)) :: env) st) :
    wpR P w0 (⟨some d, none, .light (.fa off x), q, ks⟩ :: rest) K env st := wr_light (by simp [LOp.eval, hx, addr_add]) k
theorem wr_fa0 {off : Nat} (hx : evalO env x = some (.pointer (some ⟨b, 0, none⟩))) (k : wpR P w0 rest K ((d, .pointer (some ⟨b, off, none⟩)) :: env) st) :
    wpR P w0 (⟨some d, none, .light (.fa off x), q, ks⟩ :: rest) K env st := wr_light (by simp [LOp.eval, hx, addr_add]) k
theorem wr_faA {off : Nat} (hx : evalO env x = some (.pointer (some a))) (k : wpR P w0 rest K ((d, .pointer (some (a.add off))) :: env) st) :
    wpR P w0 (⟨some d, none, .light (.fa off x), q, ks⟩ :: rest) K env st := wr_light (by simp [LOp.eval, hx]) k
theorem wr_iaN {j : IntKind} {m : Nat} (hx : evalO env x = some (.slice (some ⟨b, o, none⟩) n c)) (hi : evalO env i = some (.int j (m : Int))) (h : m < n) (k : wpR P w0 rest K ((d, .pointer (some ⟨b, o + m * sz, none⟩)) :: env) st) :
    wpR P w0 (⟨some d, none, .light (.iaS sz x i), q, ks⟩ :: rest) K env st := wr_light (by
      have h1 : 0 ≤ (m : Int) ∧ (m : Int) < n := ⟨by omega, by omega⟩
      simp only [LOp.eval, hx, hi, if_pos h1, addr_add, Int.toNat_natCast]) k
theorem wr_ia {j : IntKind} {m : Int} (hx : evalO env x = some (.slice (some ⟨b, o, none⟩) n c)) (hi : evalO env i = some (.int j m)) (h : 0 ≤ m ∧ m < n) (k : wpR P w0 rest K ((d, .pointer (some ⟨b, o + m.toNat * sz, none⟩)) :: env) st) :
    wpR P w0 (⟨some d, none, .light (.iaS sz x i), q, ks⟩ :: rest) K env st := wr_light (by simp only [LOp.eval, hx, hi, if_pos h, addr_add]) k
theorem wr_iaA {j : IntKind} {m : Int} (hx : evalO env x = some (.slice (some a) n c)) (hi : evalO env i = some (.int j m)) (h : 0 ≤ m ∧ m < n) (k : wpR P w0 rest K ((d, .pointer (some (a.add (m.toNat * sz)))) :: env) st) :
    wpR P w0 (⟨some d, none, .light (.iaS sz x i), q, ks⟩ :: rest) K env st := wr_light (by simp only [LOp.eval, hx, hi, if_pos h]) k
theorem wr_len {a : Option Addr} (hx : evalO env x = some (.slice a n c)) (k : wpR P w0 rest K ((d, .int .i64 n) :: env) st) :
    wpR P w0 (⟨some d, none, .light (.len x), q, ks⟩ :: rest) K env st := wr_light (by simp only [LOp.eval, hx]) k
theorem wr_lenS {s : ByteArray} (hx : evalO env x = some (.string s)) (k : wpR P w0 rest K ((d, .int .i64 s.size) :: env) st) :
    wpR P w0 (⟨some d, none, .light (.lenS x), q, ks⟩ :: rest) K env st := wr_light (by simp only [LOp.eval, hx]) k

theorem ld_eval {cs vs : List Value} {ty : TypeId} {v : Value} {agg : Bool} (hx : evalO env x = some (.pointer (some ⟨b, o, none⟩))) (hc : st.blk b = some (.cells cs ty)) (hb : w0.heap.size ≤ b) (hl : o + n ≤ cs.length)
    (hv : (cs.drop o).take n = vs) (hp : partOf agg vs = some v) : (LOp.ld n agg x).eval P w0 env st = some v := by
  simp only [LOp.eval, hx, cellsAt_own hb hc hl, hv, hp]
theorem take_one {α : Type} {cs : List α} {o : Nat} {v : α} (h : cs[o]? = some v) : (cs.drop o).take 1 = [v] := by
  obtain ⟨hlt, rfl⟩ := List.getElem?_eq_some_iff.1 h
  rw [List.drop_eq_getElem_cons hlt]; rfl
/-- One cell of a block of one's own. -/
theorem wr_ld1 {cs : List Value} {ty : TypeId} {v : Value} (hx : evalO env x = some (.pointer (some ⟨b, o, none⟩))) (hc : st.blk b = some (.cells cs ty)) (hb : w0.heap.size ≤ b) (hv : cs[o]? = some v)
    (k : wpR P w0 rest K ((d, v) :: env) st) : wpR P w0 (⟨some d, none, .light (.ld 1 false x), q, ks⟩ :: rest) K env st :=
  wr_light (ld_eval hx hc hb (by have := (List.getElem?_eq_some_iff.1 hv).1; omega) (take_one hv) rfl) k
theorem wr_ldn {cs vs : List Value} {ty : TypeId} (hx : evalO env x = some (.pointer (some ⟨b, o, none⟩))) (hc : st.blk b = some (.cells cs ty)) (hb : w0.heap.size ≤ b) (hl : o + n ≤ cs.length) (hv : (cs.drop o).take n = vs)
    (k : wpR P w0 rest K ((d, .agg vs.toArray) :: env) st) : wpR P w0 (⟨some d, none, .light (.ld n true x), q, ks⟩ :: rest) K env st :=
  wr_light (ld_eval hx hc hb hl hv rfl) k
/-- What is given of reading, by whatever reason. -/
theorem wr_ld {v : Value} {agg : Bool} (h : (LOp.ld n agg x).eval P w0 env st = some v) (k : wpR P w0 rest K ((d, v) :: env) st) : wpR P w0 (⟨some d, none, .light (.ld n agg x), q, ks⟩ :: rest) K env st := wr_light h k
theorem wr_ld_at {vs : List Value} {v : Value} {agg : Bool} (hx : evalO env x = some (.pointer (some a))) (hc : cellsAt w0 st a n = some vs) (hp : partOf agg vs = some v) (k : wpR P w0 rest K ((d, v) :: env) st) :
    wpR P w0 (⟨some d, none, .light (.ld n agg x), q, ks⟩ :: rest) K env st := wr_light (by simp only [LOp.eval, hx, hc, hp]) k

theorem wr_fld1 {off : Nat} {cs : List Value} {v : Value} (hx : evalO env x = some (.agg ⟨cs⟩)) (hv : cs[off]? = some v) (k : wpR P w0 rest K ((d, v) :: env) st) :
    wpR P w0 (⟨some d, none, .light (.fld off 1 false x), q, ks⟩ :: rest) K env st := wr_light (by
      have := (List.getElem?_eq_some_iff.1 hv).1
      have hs : off + 1 ≤ (Array.mk cs).size := by show off + 1 ≤ cs.length; omega
      simp only [LOp.eval, hx, if_pos hs, take_one hv, partOf]; rfl) k
theorem wr_fldn {off : Nat} {cs vs : List Value} (hx : evalO env x = some (.agg ⟨cs⟩)) (hl : off + n ≤ cs.length) (hv : (cs.drop off).take n = vs) (k : wpR P w0 rest K ((d, .agg vs.toArray) :: env) st) :
    wpR P w0 (⟨some d, none, .light (.fld off n true x), q, ks⟩ :: rest) K env st := wr_light (by
      have hs : off + n ≤ (Array.mk cs).size := hl
      simp only [LOp.eval, hx, if_pos hs, hv, partOf]; rfl) k
theorem wr_ext {m : Nat} {vs : List Value} {v : Value} (hx : evalO env x = some (.tuple ⟨vs⟩)) (hv : vs[m]? = some v) (k : wpR P w0 rest K ((d, v) :: env) st) :
    wpR P w0 (⟨some d, none, .light (.ext m x), q, ks⟩ :: rest) K env st := wr_light (by simp only [LOp.eval, hx]; simpa using hv) k
theorem wr_bld {zero cs : List Value} {places : List (Nat × Nat)} {parts : List (Nat × Operand)} {l : List (Nat × List Value)} (hp : evalParts env parts = some l) (hf : fillL places zero l = some cs) (k : wpR P w0 rest K ((d, .agg cs.toArray) :: env) st) :
    wpR P w0 (⟨some d, none, .light (.bld zero places parts), q, ks⟩ :: rest) K env st := wr_light (by simp only [LOp.eval, hp, hf, Option.map_some]) k
end ptrs

/-! ### New blocks -/
section news
variable {x : Operand} {nx n : Nat} {ty : TypeId} {cs : List Value}
theorem wr_cells (hn : st.next = nx) (k : wpR P w0 rest K ((d, .pointer (some ⟨nx, 0, none⟩)) :: env) (st.alloc (.cells cs ty))) :
    wpR P w0 (⟨some d, none, .alloc (.cells cs ty), q, ks⟩ :: rest) K env st := by
  subst hn
  simpa only [wpR, guardOf, guardV_true, COp.step, AOp.eval, putE, ptrTo] using k
theorem wr_box {v : Value} (hn : st.next = nx) (hx : evalO env x = some v) (hv : cellsQ v = some cs) (hl : cs.length = n) (k : wpR P w0 rest K ((d, .pointer (some ⟨nx, 0, none⟩)) :: env) (st.alloc (.cells cs ty))) :
    wpR P w0 (⟨some d, none, .alloc (.box n ty x), q, ks⟩ :: rest) K env st := by
  subst hn
  simpa only [wpR, guardOf, guardV_true, COp.step, AOp.eval, putE, ptrTo, hx, Option.bind_some, hv, hl, if_true] using k
theorem wr_boxA (hn : st.next = nx) (hx : evalO env x = some (.agg ⟨cs⟩)) (hl : cs.length = n) (k : wpR P w0 rest K ((d, .pointer (some ⟨nx, 0, none⟩)) :: env) (st.alloc (.cells cs ty))) :
    wpR P w0 (⟨some d, none, .alloc (.box n ty x), q, ks⟩ :: rest) K env st := wr_box hn hx rfl hl k
theorem wr_row {sz len : Nat} {zero : List Value} {parts : List (Nat × Operand)} {l : List (Nat × List Value)} (hn : st.next = nx) (hp : evalParts env parts = some l) (hf : fillL ((List.range len).map fun i => (i * sz, sz)) zero l = some cs)
    (k : wpR P w0 rest K ((d, .slice (some ⟨nx, 0, none⟩) len sz) :: env) (st.alloc (.cells cs ty))) : wpR P w0 (⟨some d, none, .alloc (.row ty sz len zero parts), q, ks⟩ :: rest) K env st := by
  subst hn
  simpa only [wpR, guardOf, guardV_true, COp.step, AOp.eval, putE, hp, hf, Option.map_some] using k
theorem wr_make {sz bytes m : Nat} {zero : List Value} {l c : Operand} (hn : st.next = nx) (hl : evalO env l = some (.int .i64 (m : Int))) (hc : evalO env c = some (.int .i64 (m : Int))) (h : m * bytes ≤ 140737488355328 ∧ m < 9223372036854775808)
    (k : wpR P w0 rest K ((d, .slice (some ⟨nx, 0, none⟩) m sz) :: env) (st.alloc (.cells (zeros m zero) ty))) : wpR P w0 (⟨some d, none, .alloc (.make ty sz bytes zero l c), q, ks⟩ :: rest) K env st := by
  subst hn
  have h1 : (m : Int) * (bytes : Int) ≤ 140737488355328 := by rw [← Int.natCast_mul]; omega
  have h' : 0 ≤ (m : Int) ∧ (m : Int) = m ∧ (m : Int) * bytes ≤ 140737488355328 ∧ (m : Int) < 9223372036854775808 := ⟨by omega, rfl, h1, by omega⟩
  have e : (AOp.make ty sz bytes zero l c).eval env = some (.cells (zeros m zero) ty, fun b => .slice (some ⟨b, 0, none⟩) m sz) := by
    show (match evalO env l, evalO env c with
      | some (.int .i64 n), some (.int .i64 m) => if 0 ≤ n ∧ n = m ∧ n * bytes ≤ 140737488355328 ∧ n < 9223372036854775808 then some (Blk.cells (zeros n.toNat zero) ty, fun b => Value.slice (some ⟨b, 0, none⟩) n.toNat sz) else none
      | _, _ => none) = _
    rw [hl, hc]
    exact if_pos h'
  simpa only [wpR, guardOf, guardV_true, COp.step, e, putE] using k
theorem wr_mkmap (hn : st.next = nx) (k : wpR P w0 rest K ((d, .map (some nx)) :: env) (st.alloc (.map []))) : wpR P w0 (⟨some d, none, .alloc .mkmap, q, ks⟩ :: rest) K env st := by
  subst hn
  simpa only [wpR, guardOf, guardV_true, COp.step, AOp.eval, putE] using k
theorem wr_iter {s : ByteArray} (hn : st.next = nx) (hx : evalO env x = some (.string s)) (k : wpR P w0 rest K ((d, .pointer (some ⟨nx, 0, none⟩)) :: env) (st.alloc (.iter s 0))) : wpR P w0 (⟨some d, none, .alloc (.iter x), q, ks⟩ :: rest) K env st := by
  subst hn
  simpa only [wpR, guardOf, guardV_true, COp.step, AOp.eval, putE, ptrTo, hx] using k
end news

/-! ### Writing, calls -/
theorem wr_heavy {h : HOp} {v : Value} {st' : St} {d : Option Nat} (hv : h.eval w0 env st = some (v, st')) (hk : ∀ l ∈ ks, (l.eval P w0 env st).isSome = true ∧ l.eval P w0 env st' = l.eval P w0 env st) (k : wpR P w0 rest K (putE d v env) st') :
    wpR P w0 (⟨d, none, .heavy h, q, ks⟩ :: rest) K env st := by
  simp only [wpR, guardOf, guardV_true, COp.step, hv]
  exact And.intro hk k
theorem store_eval {x v : Operand} {b o n : Nat} {cs vs cs' : List Value} {ty : TypeId} {u : Value} (hx : evalO env x = some (.pointer (some ⟨b, o, none⟩))) (hv : evalO env v = some u) (hu : cellsQ u = some vs) (hn : vs.length = n)
    (hc : st.blk b = some (.cells cs ty)) (hl : o + n ≤ cs.length) (hs : cs.take o ++ vs ++ cs.drop (o + n) = cs') : (HOp.store n x v).eval w0 env st = some (undef, st.set b (.cells cs' ty)) := by
  simp only [HOp.eval, hx, hv, Option.bind_some, hu, hn, hc, hl, if_true, true_and, hs]
theorem wr_store {x v : Operand} {b o n : Nat} {cs vs cs' : List Value} {ty : TypeId} {u : Value} (hx : evalO env x = some (.pointer (some ⟨b, o, none⟩))) (hv : evalO env v = some u) (hu : cellsQ u = some vs) (hn : vs.length = n)
    (hc : st.blk b = some (.cells cs ty)) (hl : o + n ≤ cs.length) (hs : cs.take o ++ vs ++ cs.drop (o + n) = cs') (k : wpR P w0 rest K env (st.set b (.cells cs' ty))) :
    wpR P w0 (⟨none, none, .heavy (.store n x v), q, []⟩ :: rest) K env st := wr_heavy (d := none) (store_eval hx hv hu hn hc hl hs) (by simp) k
theorem set_spell {α : Type} {cs : List α} {o : Nat} (h : o < cs.length) (v : α) : cs.take o ++ [v] ++ cs.drop (o + 1) = cs.set o v := by
  rw [List.set_eq_take_append_cons_drop, if_pos h]; simp
/-- One cell. -/
theorem wr_store1 {x v : Operand} {b o : Nat} {cs cs' : List Value} {ty : TypeId} {u : Value} (hx : evalO env x = some (.pointer (some ⟨b, o, none⟩))) (hv : evalO env v = some u) (hu : cellsQ u = some [u])
    (hc : st.blk b = some (.cells cs ty)) (hl : o < cs.length) (hs : cs.set o u = cs') (k : wpR P w0 rest K env (st.set b (.cells cs' ty))) :
    wpR P w0 (⟨none, none, .heavy (.store 1 x v), q, []⟩ :: rest) K env st := wr_store hx hv hu rfl hc hl ((set_spell hl u).trans hs) k

theorem wr_call {f : FuncId} {args : List Operand} {vs : List Value} {Q : Value → St → Prop} (ha : evalArgs env args = some vs) (hc : DCalls P w0 f vs st Q) (k : ∀ v st', Q v st' → Ok w0 st' → st.next ≤ st'.next → wpR P w0 rest K ((d, v) :: env) st') :
    wpR P w0 (⟨some d, none, .call f args, false, ks⟩ :: rest) K env st := by
  simp only [wpR, guardOf, guardV_true, COp.step, ha, putE]
  exact hc.mono' fun v st' hq ho hn => ⟨fun h => (by cases h), k v st' hq ho hn⟩
/-- A call that was put ahead: what was there is left. -/
theorem wr_callq {f : FuncId} {args : List Operand} {vs : List Value} {Q : Value → St → Prop} (ha : evalArgs env args = some vs) (hc : DCalls P w0 f vs st Q) (k : ∀ v st', Q v st' → Ok w0 st' → st.next ≤ st'.next → st.le st' ∧ wpR P w0 rest K ((d, v) :: env) st') :
    wpR P w0 (⟨some d, none, .call f args, true, ks⟩ :: rest) K env st := by
  simp only [wpR, guardOf, guardV_true, COp.step, ha, putE]
  exact hc.mono' fun v st' hq ho hn => ⟨fun _ => (k v st' hq ho hn).1, (k v st' hq ho hn).2⟩

/-! ### Ways -/
section ways
variable {c : Operand} {a b : S} {Q : Exit → Env → St → Prop} {p : Prop} [Decidable p]
theorem wq_cond_t (hc : evalO env c = some (.bool true)) (h : wpS P w0 a Q env st) : wpS P w0 (.cond c a b) Q env st := wq_cond hc (fun _ => h) (fun h => by cases h)
theorem wq_cond_f (hc : evalO env c = some (.bool false)) (h : wpS P w0 b Q env st) : wpS P w0 (.cond c a b) Q env st := wq_cond hc (fun h => by cases h) (fun _ => h)
theorem wq_cond_yes (hc : evalO env c = some (.bool (decide p))) (hp : p) (h : wpS P w0 a Q env st) : wpS P w0 (.cond c a b) Q env st := wq_cond hc (fun _ => h) (fun h => by simp [hp] at h)
theorem wq_cond_no (hc : evalO env c = some (.bool (decide p))) (hp : ¬ p) (h : wpS P w0 b Q env st) : wpS P w0 (.cond c a b) Q env st := wq_cond hc (fun h => by simp [hp] at h) (fun _ => h)
theorem wq_cond_d (hc : evalO env c = some (.bool (decide p))) (h1 : p → wpS P w0 a Q env st) (h2 : ¬ p → wpS P w0 b Q env st) : wpS P w0 (.cond c a b) Q env st := wq_cond hc (fun h => h1 (by simpa using h)) (fun h => h2 (by simpa using h))
/-- The results, one by one. -/
def resK (w0 : World) (env : Env) (st : St) (rs : List (Nat × Option (Nat × Bool))) (k : List Value → Prop) : Prop := ∃ vs, resAll w0 env st rs = some vs ∧ k vs
theorem ret_of {rs : List (Nat × Option (Nat × Bool))} {Q : Value → St → Prop} (h : resK w0 env st rs fun vs => Q (resV vs) st) : retQ w0 rs Q .ret env st := by
  obtain ⟨vs, h1, h2⟩ := h
  simp only [retQ, h1]; exact h2
theorem end_of {rs : List (Nat × Option (Nat × Bool))} {Q : Value → St → Prop} (h : resK w0 env st rs fun vs => Q (resV vs) st) : retQ w0 rs Q .normal env st := by
  obtain ⟨vs, h1, h2⟩ := h
  simp only [retQ, h1]; exact h2
theorem rk_nil {k : List Value → Prop} (h : k []) : resK w0 env st [] k := ⟨[], rfl, h⟩
theorem rk_tmp {t : Nat} {v : Value} {rs : List (Nat × Option (Nat × Bool))} {k : List Value → Prop} (h : env.lookup t = some v) (hr : resK w0 env st rs fun l => k (v :: l)) : resK w0 env st ((t, none) :: rs) k := by
  obtain ⟨l, h1, h2⟩ := hr
  exact ⟨_, by simp only [resAll, resOne, h, h1], h2⟩
theorem rk_cell1 {t b o : Nat} {cs : List Value} {ty : TypeId} {v : Value} {rs : List (Nat × Option (Nat × Bool))} {k : List Value → Prop} (h : env.lookup t = some (.pointer (some ⟨b, o, none⟩))) (hc : st.blk b = some (.cells cs ty)) (hb : w0.heap.size ≤ b)
    (hv : cs[o]? = some v) (hr : resK w0 env st rs fun l => k (v :: l)) : resK w0 env st ((t, some (1, false)) :: rs) k := by
  obtain ⟨l, h1, h2⟩ := hr
  exact ⟨_, by simp only [resAll, resOne, h, cellsAt_own hb hc (show o + 1 ≤ cs.length by have := (List.getElem?_eq_some_iff.1 hv).1; omega), take_one hv, partOf, h1, Bool.false_eq_true, if_false], h2⟩
theorem rk_celln {t b o n : Nat} {cs vs : List Value} {ty : TypeId} {rs : List (Nat × Option (Nat × Bool))} {k : List Value → Prop} (h : env.lookup t = some (.pointer (some ⟨b, o, none⟩))) (hc : st.blk b = some (.cells cs ty)) (hb : w0.heap.size ≤ b)
    (hl : o + n ≤ cs.length) (hv : (cs.drop o).take n = vs) (hr : resK w0 env st rs fun l => k (.agg vs.toArray :: l)) : resK w0 env st ((t, some (n, true)) :: rs) k := by
  obtain ⟨l, h1, h2⟩ := hr
  exact ⟨_, by simp only [resAll, resOne, h, cellsAt_own hb hc hl, hv, partOf, if_true, h1], h2⟩
theorem through_ret {K' : Env → St → Prop} (h : Q .ret env st) : thenE K' Q .ret env st := h
theorem through_exit {K' : Env → St → Prop} {i : Nat} (h : Q (.exit i) env st) : thenE K' Q (.exit i) env st := h
theorem through_normal {K' : Env → St → Prop} (h : K' env st) : thenE K' Q .normal env st := h
theorem block_ret {i : Nat} (h : Q .ret env st) : inBlockE i Q .ret env st := h
theorem block_normal {i : Nat} (h : Q .normal env st) : inBlockE i Q .normal env st := h
theorem block_exit {i : Nat} (h : Q .normal env st) : inBlockE i Q (.exit i) env st := by simp only [inBlockE, if_true]; exact h
theorem block_out {i j : Nat} (hj : j ≠ i) (h : Q (.exit j) env st) : inBlockE i Q (.exit j) env st := by simp only [inBlockE, if_neg hj]; exact h
end ways
end
end Go.Proofs.Ytnndjlgkhfinjaa.V
