/-
  Walks of functions of the program, and what the laws need of them.
-/
import Derived.Test.YteegjmglkkhoeaaDoorRPD
import Derived.Test.YteegjmglkkhoeaaDoorVH
set_option linter.all false
set_option linter.unusedSimpArgs false
set_option linter.unusedVariables false
set_option linter.unnecessarySimpa false
namespace Go.Proofs.YteegjmglkkhoeaaDoor
set_option maxRecDepth 20000
open Go Go.Proofs.YteegjmglkkhoeaaDoor.V Go.Proofs

theorem numW_inc (o : Opd) (x : Thr) : numW o (incP x) = numW o x := rfl
theorem step1 {p : Prg} {i : Ins} {x : Thr} (h : (stepW p i x).kind = 1) : ¬ (readsB i = true ∨ writesB i = true) := by
 intro hm
 cases ha : addrW p.syms (opdOf i) x with
 | none => rw [step_none hm ha] at h; cases h
 | some a =>
  rw [step_some hm ha] at h
  split at h
  ·cases h
  ·split at h
   ·cases h
   ·split at h
    ·cases h
    ·cases h
theorem step2 {p : Prg} {i : Ins} {x : Thr} (h : (stepW p i x).kind = 2) : readsB i = true ∧ lockedB i = false := by
 by_cases hm : readsB i = true ∨ writesB i = true
 ·cases ha : addrW p.syms (opdOf i) x with
  | none => rw [step_none hm ha] at h; cases h
  | some a =>
   rw [step_some hm ha] at h
   split at h
   ·cases h
   ·split at h
    ·cases h
    ·split at h
     ·exact ⟨by assumption, by simpa using ‹¬ lockedB i = true›⟩
     ·cases h
 ·rw [step_loc hm] at h
  split at h <;> cases h
theorem loc_a {i : Ins} (hf : Form i) (h : ¬ (readsB i = true ∨ writesB i = true)) : i.op ≤ 7 → i.a.kind = 1 := by
 intro h7
 refine hf.low h7 ?_
 cases hm : memK i.a with
 | false => rfl
 | true =>
  exfalso
  apply h
  have h1 := hf.reads
  have h2 := hf.writes
  rw [hm] at h1 h2
  by_cases h7 : i.op = 7
  ·left; rw [h1, h7]; simp
  ·right; rw [h2, dF h7]; rfl
theorem parts2 {i : Ins} (h : insRight i = 0) : partsI i = 2 ↔ readsB i = true ∧ writesB i = true ∧ lockedB i = false := by
 unfold partsI
 rw [if_pos h]
 split
 ·simp_all
 ·rename_i hn
  simp only [hn]; simp
theorem ld_a {i : Ins} (hf : Form i) (hr : insRight i = 0) (h1 : readsB i = true) (h2 : lockedB i = false) (h3 : ¬ partsI i = 2) (h4 : i.op ≠ 7 ∨ i.a.kind = 1) : i.a.kind = 1 := by
 rw [parts2 hr] at h3
 simp only [h1, h2, and_true, true_and, Bool.not_eq_true] at h3
 have e1 := hf.reads
 have e2 := hf.writes
 rw [h1] at e1
 rw [h3] at e2
 have h8 : i.op ≠ 8 := fun h => by have := hf.locked; rw [h2, dT h] at this; simp at this
 have h9 : i.op ≠ 9 := fun h => by have := hf.locked; rw [h2, (hf.cmx h).2.2] at this; simp at this
 have hlo : i.op ≤ 7 := by
  have := hf.op
  by_cases h10 : 10 ≤ i.op
  ·obtain ⟨q1, q2, _⟩ := hf.hi h10
   rw [q1, q2] at e1; cases e1
  ·omega
 rcases h4 with h4 | h4
 ·refine hf.low hlo ?_
  cases hm : memK i.a with
  | false => rfl
  | true => rw [hm, dF h4] at e2; cases e2
 ·exact h4
section
attribute [local irreducible] TwS TwR thenT inBlockT retT readsB writesB readsO writesO lockedB partsI addrW opdOf phB doW numW IntKind.wrap holdsW stepW doLocal
theorem localP_spec (p : Prg) (ho : okP p) (hc : checkC p = 0) (t : Int) (x : Thr) (hx : thrR x) : Pure prog Tabs 57 [.fp (cCore p) 0, tI t, .agg (cThr x)] (.agg (cThr (localW p t x))) := by
 have c := fun G => line_spec (G := G) p t x
 have cn := next_spec p ho hc t x hx
 refine Pure.at mixedOk F57 rfl fun C hP hG hp => goF ?_; simp only [F57, targEnv, Nat.zero_add, Nat.reduceAdd]
 cases hcur : curI p t x with
 | none =>
  rw [show localW p t x = x by rw [localW, hcur]]
  rw [show nextW p t x = ⟨0, 0, 0⟩ by rw [nextW, hcur]] at cn
  simp only [lineP, hcur] at c
  repeat' (first | refine goR rfl ?_ | refine goS rfl ?_ | refine tret1 rfl ?_ | refine tretN rfl ?_ | refine gY rfl rfl ?_ | refine gN rfl rfl ?_ | refine qT rfl rfl ?_ | refine qF rfl rfl ?_ | refine cA rfl (by rw [hP, hG]; exact c _) rfl ?_ | refine cA rfl (by rw [hP, hG]; exact cn) rfl ?_ | ((first | refine gS rfl (fun h => ?_) (fun h => ?_) | refine ts_cond rfl (fun h => ?_) (fun h => ?_)) <;> try simp only [bs0, beq_iff_eq] at h) | fail)
  exact .fr rfl
 | some i =>
  obtain ⟨_, _, _, _, _, _, _, hio⟩ := cur_ok ho hc hcur
  have hf := form_of hio.right
  simp only [lineP, hcur, lineOf, cLine_mk] at c
  cases hph : phB i x with
  | false =>
   rw [show localW p t x = x by rw [localW, hcur]; simp only [hph]; rfl]
   rw [show nextW p t x = ⟨0, 0, 0⟩ by rw [nextW, hcur]; simp only [hph]; rfl] at cn
   simp only [hph] at c
   repeat' (first | refine goR rfl ?_ | refine goS rfl ?_ | refine tret1 rfl ?_ | refine tretN rfl ?_ | refine gY rfl rfl ?_ | refine gN rfl rfl ?_ | refine qT rfl rfl ?_ | refine qF rfl rfl ?_ | refine cA rfl (by rw [hP, hG]; exact c _) rfl ?_ | refine cA rfl (by rw [hP, hG]; exact cn) rfl ?_ | ((first | refine gS rfl (fun h => ?_) (fun h => ?_) | refine ts_cond rfl (fun h => ?_) (fun h => ?_)) <;> try simp only [bs0, beq_iff_eq] at h) | fail)
   exact .fr rfl
  | true =>
   rw [show localW p t x = localI p t i x by rw [localW, hcur]; simp only [hph]; rfl]
   rw [show nextW p t x = stepW p i x by rw [nextW, hcur]; simp only [hph]; rfl] at cn
   simp only [hph] at c
   repeat' (first | refine goR rfl ?_ | refine goS rfl ?_ | refine tret1 rfl ?_ | refine tretN rfl ?_ | refine gY rfl rfl ?_ | refine gN rfl rfl ?_ | refine qT rfl rfl ?_ | refine qF rfl rfl ?_ | refine cA rfl (by rw [hP, hG]; exact c _) rfl ?_ | refine cA rfl (by rw [hP, hG]; exact cn) rfl ?_ | refine cA rfl (by rw [hP, hG]; exact number_spec i.b x hf.rb) rfl ?_ | refine cA rfl (by rw [hP, hG]; exact do_spec _ _ _) rfl ?_ | refine cA rfl (by rw [hP, hG]; exact local_spec i _ _ _ _ _ _ x hf (loc_a hf (step1 (by assumption)))) rfl ?_ | ((first | refine gS rfl (fun h => ?_) (fun h => ?_) | refine ts_cond rfl (fun h => ?_) (fun h => ?_)) <;> (try simp only [bs0, beq_iff_eq] at h) <;> try (exfalso; omega; done)) | fail)
   ·rw [localI, if_pos h]; exact .fr rfl
   ·rw [localI, if_neg (by omega), if_pos h]; exact .fr rfl
   ·rw [localI, if_neg (by omega), if_neg (by omega), if_pos (by assumption), if_pos h]; exact .fr rfl
   ·rw [localI, if_neg (by omega), if_neg (by omega), if_pos (by assumption), if_neg h]; exact .fr rfl
   ·rw [localI, if_neg (by omega), if_neg (by omega), if_neg (by omega), if_pos h]; exact .fr rfl
   ·rw [localI, if_neg (by omega), if_neg (by omega), if_neg (by omega), if_neg h]; exact .fr rfl
theorem loaded_spec (p : Prg) (ho : okP p) (hc : checkC p = 0) (t : Int) (x : Thr) (hx : thrR x) (v : Int) : Pure prog Tabs 56 [.fp (cCore p) 0, tI t, .agg (cThr x), tI v] (.agg (cThr (loadedW p t x v))) := by
 have c := fun G => line_spec (G := G) p t x
 have cn := next_spec p ho hc t x hx
 refine Pure.at mixedOk F56 rfl fun C hP hG hp => goF ?_; simp only [F56, targEnv, Nat.zero_add, Nat.reduceAdd]
 cases hcur : curI p t x with
 | none =>
  rw [show loadedW p t x v = x by rw [loadedW, hcur]]
  rw [show nextW p t x = ⟨0, 0, 0⟩ by rw [nextW, hcur]] at cn
  repeat' (first | refine goR rfl ?_ | refine goS rfl ?_ | refine tret1 rfl ?_ | refine tretN rfl ?_ | refine gY rfl rfl ?_ | refine gN rfl rfl ?_ | refine qT rfl rfl ?_ | refine qF rfl rfl ?_ | refine cA rfl (by rw [hP, hG]; exact cn) rfl ?_ | ((first | refine gS rfl (fun h => ?_) (fun h => ?_) | refine ts_cond rfl (fun h => ?_) (fun h => ?_)) <;> try simp only [bs0, beq_iff_eq] at h) | fail)
  exact .fr rfl
 | some i =>
  obtain ⟨_, _, _, _, _, _, _, hio⟩ := cur_ok ho hc hcur
  have hf := form_of hio.right
  simp only [lineP, hcur, lineOf, cLine_mk] at c
  cases hph : phB i x with
  | false =>
   rw [show loadedW p t x v = x by rw [loadedW, hcur]; simp only [hph]; rfl]
   rw [show nextW p t x = ⟨0, 0, 0⟩ by rw [nextW, hcur]; simp only [hph]; rfl] at cn
   repeat' (first | refine goR rfl ?_ | refine goS rfl ?_ | refine tret1 rfl ?_ | refine tretN rfl ?_ | refine gY rfl rfl ?_ | refine gN rfl rfl ?_ | refine qT rfl rfl ?_ | refine qF rfl rfl ?_ | refine cA rfl (by rw [hP, hG]; exact cn) rfl ?_ | ((first | refine gS rfl (fun h => ?_) (fun h => ?_) | refine ts_cond rfl (fun h => ?_) (fun h => ?_)) <;> try simp only [bs0, beq_iff_eq] at h) | fail)
   exact .fr rfl
  | true =>
   rw [show nextW p t x = stepW p i x by rw [nextW, hcur]; simp only [hph]; rfl] at cn
   simp only [hph] at c
   by_cases hk : (stepW p i x).kind = 2
   ·rw [show loadedW p t x v = loadedI i x v by rw [loadedW, hcur]; simp only; rw [if_pos ⟨hph, hk⟩]]
    obtain ⟨k1, k2⟩ := step2 hk
    have hr := hf.ra
    have hla := ld_a hf hio.right k1 k2
    repeat' (first | refine goR rfl ?_ | refine goS rfl ?_ | refine tret1 rfl ?_ | refine tretN rfl ?_ | refine gY rfl rfl ?_ | refine gN rfl rfl ?_ | refine qT rfl rfl ?_ | refine qF rfl rfl ?_ | refine cA rfl (by rw [hP, hG]; exact c _) rfl ?_ | refine cA rfl (by rw [hP, hG]; exact cn) rfl ?_ | refine cA rfl (by rw [hP, hG]; exact number_spec i.b x hf.rb) rfl ?_ | refine cA rfl (by rw [hP, hG]; exact do_spec _ _ _) rfl ?_ | refine lT (tl_iaAp rfl rfl (by have := hr (hla (by assumption) (by omega)); omega)) ?_ | refine lT (tl_ldR rfl rfl (at8 (hr (hla (by assumption) (by omega))) (by omega))) ?_ | refine tr_store rfl rfl rfl rfl rfl (put8 (hr (hla (by assumption) (by omega))) (by omega)) rfl ?_ | ((first | refine gS rfl (fun h => ?_) (fun h => ?_) | refine ts_cond rfl (fun h => ?_) (fun h => ?_)) <;> (try simp only [bs0, beq_iff_eq] at h) <;> try (exfalso; omega; done)) | fail)
    all_goals first
     | (rw [loadedI, if_pos (by assumption)]; exact .fr rfl)
     | (rw [loadedI, if_neg (by assumption), if_pos (by omega)]; exact .fr rfl)
     | (rw [loadedI, if_neg (by assumption), if_neg (by omega), if_pos (by omega)]; exact .fr rfl)
     | (rw [loadedI, if_neg (by assumption), if_neg (by omega), if_neg (by omega), if_pos (by omega)]; exact .fr rfl)
     | (rw [loadedI, if_neg (by assumption), if_neg (by omega), if_neg (by omega), if_neg (by omega)]; exact .fr rfl)
   ·rw [show loadedW p t x v = x by rw [loadedW, hcur]; simp only; rw [if_neg (fun h => hk h.2)]]
    repeat' (first | refine goR rfl ?_ | refine goS rfl ?_ | refine tret1 rfl ?_ | refine tretN rfl ?_ | refine gY rfl rfl ?_ | refine gN rfl rfl ?_ | refine qT rfl rfl ?_ | refine qF rfl rfl ?_ | refine cA rfl (by rw [hP, hG]; exact cn) rfl ?_ | ((first | refine gS rfl (fun h => ?_) (fun h => ?_) | refine ts_cond rfl (fun h => ?_) (fun h => ?_)) <;> (try simp only [bs0, beq_iff_eq] at h) <;> try (exfalso; omega; done)) | fail)
    exact .fr rfl
theorem swap_spec (p : Prg) (ho : okP p) (hc : checkC p = 0) (t : Int) (x : Thr) (hx : thrR x) (v : Int) :
  Pure prog Tabs 25 [.fp (cCore p) 0, tI t, .agg (cThr x), tI v] (.tup [.agg (cThr (swapW p t x v).1), tI (swapW p t x v).2.1, tB (swapW p t x v).2.2]) := by
 have c := fun G => line_spec (G := G) p t x
 have cn := next_spec p ho hc t x hx
 refine Pure.at mixedOk F25 rfl fun C hP hG hp => goF ?_; simp only [F25, targEnv, Nat.zero_add, Nat.reduceAdd]
 cases hcur : curI p t x with
 | none =>
  rw [show swapW p t x v = (x, 0, false) by rw [swapW, hcur]]
  rw [show nextW p t x = ⟨0, 0, 0⟩ by rw [nextW, hcur]] at cn
  repeat' (first | refine goR rfl ?_ | refine goS rfl ?_ | refine tret1 rfl ?_ | refine tretN rfl ?_ | refine gY rfl rfl ?_ | refine gN rfl rfl ?_ | refine qT rfl rfl ?_ | refine qF rfl rfl ?_ | refine cA rfl (by rw [hP, hG]; exact cn) rfl ?_ | ((first | refine gS rfl (fun h => ?_) (fun h => ?_) | refine ts_cond rfl (fun h => ?_) (fun h => ?_)) <;> try simp only [bs0, beq_iff_eq] at h) | fail)
  exact .frT rfl
 | some i =>
  obtain ⟨_, _, _, _, _, _, _, hio⟩ := cur_ok ho hc hcur
  have hf := form_of hio.right
  simp only [lineP, hcur, lineOf, cLine_mk] at c
  cases hph : phB i x with
  | false =>
   rw [show swapW p t x v = (x, 0, false) by rw [swapW, hcur]; simp only [hph]; rfl]
   rw [show nextW p t x = ⟨0, 0, 0⟩ by rw [nextW, hcur]; simp only [hph]; rfl] at cn
   repeat' (first | refine goR rfl ?_ | refine goS rfl ?_ | refine tret1 rfl ?_ | refine tretN rfl ?_ | refine gY rfl rfl ?_ | refine gN rfl rfl ?_ | refine qT rfl rfl ?_ | refine qF rfl rfl ?_ | refine cA rfl (by rw [hP, hG]; exact cn) rfl ?_ | ((first | refine gS rfl (fun h => ?_) (fun h => ?_) | refine ts_cond rfl (fun h => ?_) (fun h => ?_)) <;> try simp only [bs0, beq_iff_eq] at h) | fail)
   exact .frT rfl
  | true =>
   rw [show nextW p t x = stepW p i x by rw [nextW, hcur]; simp only [hph]; rfl] at cn
   simp only [hph] at c
   by_cases hk : (stepW p i x).kind = 4
   ·rw [show swapW p t x v = swapI i x v by rw [swapW, hcur]; simp only; rw [if_pos ⟨hph, hk⟩]]
    have hr := hf.rb
    have h8 := hf.xch
    have cb := fun G => number_spec (G := G) i.b (incP x) hf.rb
    simp only [numW_inc] at cb
    repeat' (first | refine goR rfl ?_ | refine goS rfl ?_ | refine tret1 rfl ?_ | refine tretN rfl ?_ | refine gY rfl rfl ?_ | refine gN rfl rfl ?_ | refine qT rfl rfl ?_ | refine qF rfl rfl ?_ | refine cA rfl (by rw [hP, hG]; exact c _) rfl ?_ | refine cA rfl (by rw [hP, hG]; exact cn) rfl ?_ | refine cA rfl (by rw [hP, hG]; exact cb _) rfl ?_ | refine cA rfl (by rw [hP, hG]; exact do_spec _ _ _) rfl ?_ | refine lT (tl_iaAp rfl rfl (by have := hr (h8 (by assumption)).2.1; omega)) ?_ | refine lT (tl_iaAp rfl rfl (by decide)) ?_ | refine tr_store rfl rfl rfl rfl rfl (put8 (hr (h8 (by assumption)).2.1) (by omega)) rfl ?_ | ((first | refine gS rfl (fun h => ?_) (fun h => ?_) | refine ts_cond rfl (fun h => ?_) (fun h => ?_)) <;> (try simp only [bs0, beq_iff_eq] at h) <;> try (exfalso; omega; done)) | fail)
    all_goals first
     | (rw [swapI, if_pos (by assumption)]; exact .frT rfl)
     | (rw [swapI, if_neg (by omega), if_pos (by assumption), if_pos (by assumption)]; exact .frT rfl)
     | (rw [swapI, if_neg (by omega), if_pos (by assumption), if_neg (by assumption)]; exact .frT rfl)
     | (rw [swapI, if_neg (by omega), if_neg (by omega)]; exact .frT rfl)
     | skip
   ·rw [show swapW p t x v = (x, 0, false) by rw [swapW, hcur]; simp only; rw [if_neg (fun h => hk h.2)]]
    repeat' (first | refine goR rfl ?_ | refine goS rfl ?_ | refine tret1 rfl ?_ | refine tretN rfl ?_ | refine gY rfl rfl ?_ | refine gN rfl rfl ?_ | refine qT rfl rfl ?_ | refine qF rfl rfl ?_ | refine cA rfl (by rw [hP, hG]; exact cn) rfl ?_ | ((first | refine gS rfl (fun h => ?_) (fun h => ?_) | refine ts_cond rfl (fun h => ?_) (fun h => ?_)) <;> (try simp only [bs0, beq_iff_eq] at h) <;> try (exfalso; omega; done)) | fail)
    exact .frT rfl
end
end Go.Proofs.YteegjmglkkhoeaaDoor
namespace Go.Proofs.YteegjmglkkhoeaaDoor
set_option maxRecDepth 20000
open Go Go.Proofs.YteegjmglkkhoeaaDoor.V Go.Proofs

section
attribute [local irreducible] TwS TwR thenT inBlockT retT readsB writesB readsO writesO lockedB partsI addrW opdOf phB doW numW
end
end Go.Proofs.YteegjmglkkhoeaaDoor
namespace Go.Proofs.YteegjmglkkhoeaaDoor
set_option maxRecDepth 20000
open Go Go.Proofs.YteegjmglkkhoeaaDoor.V Go.Proofs
section
attribute [local irreducible] TwS TwR thenT inBlockT retT readsB writesB readsO writesO lockedB partsI addrW opdOf phB doW numW IntKind.wrap holdsW stepW
end
end Go.Proofs.YteegjmglkkhoeaaDoor
namespace Go.Proofs.YteegjmglkkhoeaaDoor
set_option maxRecDepth 20000
open Go Go.Proofs.YteegjmglkkhoeaaDoor.V Go.Proofs
section
attribute [local irreducible] TwS TwR thenT inBlockT retT readsB writesB readsO writesO lockedB partsI addrW opdOf phB doW numW IntKind.wrap holdsW stepW memK
end
end Go.Proofs.YteegjmglkkhoeaaDoor
namespace Go.Proofs.YteegjmglkkhoeaaDoor
set_option maxRecDepth 20000
open Go Go.Proofs.YteegjmglkkhoeaaDoor.V Go.Proofs

theorem sh_entry : shapeOf prog 10000 110 = some [.i .i64, .i .i64] := by kernel_rfl
theorem ag_entry : (prog.underlying 110).map aggD = some true := by kernel_rfl
theorem eg_entry : prog.eqGuardType prog.depth 110 = false := by kernel_rfl
theorem sh_thr : shapeOf prog 10000 80 = some [.i .i64, .i .i64, .i .i64, .i .i64, .i .i64, .i .i64, .i .i64, .i .i64, .b, .b, .b, .b, .i .i64, .i .i64, .i .i64, .i .i64] := by kernel_rfl
theorem ag_thr : (prog.underlying 80).map aggD = some true := by kernel_rfl
theorem eg_thr : prog.eqGuardType prog.depth 80 = false := by kernel_rfl
def entryE (x y : Entry) : Bool := beqL [.int .i64 x.addr, .int .i64 x.val] [.int .i64 y.addr, .int .i64 y.val]
def thrV (x : Thr) : List Value := [.int .i64 x.r0, .int .i64 x.r1, .int .i64 x.r2, .int .i64 x.r3, .int .i64 x.r4, .int .i64 x.r5, .int .i64 x.r6, .int .i64 x.r7, .bool x.f.z, .bool x.f.s, .bool x.f.c, .bool x.f.o, .int .i64 x.pc, .int .i64 x.ph, .int .i64 x.la, .int .i64 x.st]
def thrE (x y : Thr) : Bool := beqL (thrV x) (thrV y)
theorem thrE_iff (x y : Thr) : thrE x y = true ↔ x = y := by
 obtain ⟨a0, a1, a2, a3, a4, a5, a6, a7, ⟨f0, f1, f2, f3⟩, a8, a9, a10, a11⟩ := x
 obtain ⟨b0, b1, b2, b3, b4, b5, b6, b7, ⟨g0, g1, g2, g3⟩, b8, b9, b10, b11⟩ := y
 simp [thrE, thrV, beqL, beqA, and_assoc]
theorem entryE_iff (x y : Entry) : entryE x y = true ↔ x = y := by
 obtain ⟨a, b⟩ := x
 obtain ⟨c, d⟩ := y
 simp [entryE, beqL, beqA]
theorem same_self {α : Type} {e : α → α → Bool} (he : ∀ x y, e x y = true ↔ x = y) (l : List α) : sameL e l l = true := (sameL_eq he l l).2 rfl
section
variable {G : World → Prop}
theorem sameInts_spec (a b : List Int) : Pure prog G 27 [rwI a, rwI b] (tB (sameL (fun x y => decide (x = y)) a b)) := by
 refine Pure.at mixedOk F27 rfl fun C hP hG hp => ?_
 exact same_walk (f := fun n => [tI n]) (g := tI) a b hp (fun _ => rfl) (fun env σ x y h1 h2 => tev_sound (by simp only [tev, h1, h2]; rfl))
theorem sameEntries_spec (a b : List Entry) : Pure prog G 28 [.lst 2 (a.map cEntry), .lst 2 (b.map cEntry)] (tB (sameL entryE a b)) := by
 refine Pure.at mixedOk F28 rfl fun C hP hG hp => ?_
 exact same_walk (f := cEntry) (g := fun x => .agg (cEntry x)) a b hp (fun _ => rfl) (fun env σ x y h1 h2 => tl_nes (by rw [hP]; exact sh_entry) (by rw [hP]; exact ag_entry) (by rw [hP]; exact eg_entry) h1 h2 rfl rfl rfl rfl)
end
theorem eqI_t (l : List Int) : sameL (fun x y : Int => decide (x = y)) l l = true := same_self (by simp) l
theorem eqE_t (l : List Entry) : sameL entryE l l = true := same_self entryE_iff l
theorem thrE_t (x : Thr) : beqL (thrV x) (thrV x) = true := (thrE_iff x x).2 rfl
def okS (s : State) : Prop := s.mem.length ≤ 1000000000 ∧ s.thr.length ≤ 1000000000 ∧ s.bufs.length ≤ 1000000000 ∧ ∀ l ∈ s.bufs, l.length ≤ 1000000000
section
attribute [local irreducible] TwS TwR thenT inBlockT retT beqL
variable {G : World → Prop}
theorem sameSt_spec (s : State) (ho : okS s) : Pure prog G 12 [.agg (cState s), .agg (cState s)] (tB true) := by
 obtain ⟨h1, h2, h3, h4⟩ := ho
 have c1 := fun G => sameInts_spec (G := G) s.mem s.mem
 simp only [eqI_t] at c1
 refine Pure.at mixedOk F12 rfl fun C hP hG hp => goF ?_; simp only [F12, targEnv, Nat.zero_add, Nat.reduceAdd]
 repeat' (first | refine goR rfl ?_ | refine goS rfl ?_ | refine tret1 rfl ?_ | refine tretN rfl ?_ | refine gY rfl rfl ?_ | refine gN rfl rfl ?_ | refine qT rfl rfl ?_ | refine qF rfl rfl ?_ | refine cA rfl (by rw [hP]; exact c1 _) rfl ?_ | ((first | refine gS rfl (fun h => ?_) (fun h => ?_) | refine ts_cond rfl (fun h => ?_) (fun h => ?_)) <;> (try simp only [bs0, beq_iff_eq] at h) <;> try (exfalso; exact h trivial; done)) | fail)
 refine loopS (fun m env σ => ∃ a b, s.thr = a ++ b ∧ m = b.length ∧ env = [(2, .p 0 0), (3, .p 1 0), (5, tI a.length)] ∧ σ = ⟨[(0, .cells (cState s) 42), (1, .cells (cState s) 42)], 2⟩) s.thr.length ?_ ⟨[], s.thr, rfl, rfl, rfl, rfl⟩ ?_
 ·(refine w_ren [(0, 0), (1, 1)] rfl (by rw [hp]; intro j hj; cases hj) rfl ?_ ?_ <;> repeat' (first | exact .nil | exact .f _ rfl | exact .s _ _ _ _ _ _ rfl | exact .p _ _ _ rfl | exact .rows _ _ _ | exact .iter _ _ | exact RenL.nil _ | refine RenL.cons ?_ ?_ | refine .cells _ _ _ ?_ | refine .cons _ _ _ _ rfl ?_ ?_ | refine .cons _ _ _ _ _ rfl rfl ?_ ?_ | refine .rowsE ?_ | refine .sE rfl ?_ | exact .m _ _ rfl | refine .fE rfl ?_ | exact RenO.mB _ | exact RenO.mB [] | fail))
 rintro m env σ ⟨a, b, e, rfl, rfl, rfl⟩
 have hla : s.thr.length = a.length + b.length := by rw [e, lA]
 cases b with
 | cons x b =>
  have hx : s.thr[a.length]? = some x := by rw [e]; exact ix
  simp only [List.length_cons] at hla
  have ht := thrE_t x
  unfold thrV at ht
  repeat' (first | refine goR rfl ?_ | refine goS rfl ?_ | refine tret1 rfl ?_ | refine tretN rfl ?_ | refine gY rfl rfl ?_ | refine gN rfl rfl ?_ | refine qT rfl rfl ?_ | refine qF rfl rfl ?_ | refine qT rfl (dT (by rw [lM]; omega)) ?_ | refine lT (tl_ixm rfl rfl rfl hx) ?_ | (refine lT (tl_nes (by rw [hP]; exact sh_thr) (by rw [hP]; exact ag_thr) (by rw [hP]; exact eg_thr) rfl rfl rfl rfl rfl rfl) ?_; rw [ht]) | fail)
  refine again (m' := b.length) (Nat.lt_succ_self _) ?_ ⟨a ++ [x], b, by rw [e]; simp, rfl, rfl, rfl⟩
  (refine w_ren [(0, 0), (1, 1)] rfl (by rw [hp]; intro j hj; cases hj) rfl ?_ ?_ <;> repeat' (first | exact .nil | exact .f _ rfl | exact .s _ _ _ _ _ _ rfl | exact .p _ _ _ rfl | exact .rows _ _ _ | exact .iter _ _ | exact RenL.nil _ | refine RenL.cons ?_ ?_ | refine .cells _ _ _ ?_ | refine .cons _ _ _ _ rfl ?_ ?_ | refine .cons _ _ _ _ _ rfl rfl ?_ ?_ | refine .rowsE ?_ | refine .sE rfl ?_ | exact .m _ _ rfl | refine .fE rfl ?_ | exact RenO.mB _ | exact RenO.mB [] | fail))
  all_goals first | rfl | (rw [w64 (by omega), lA, List.length_singleton]; rfl) | (rw [lA]; rfl) | (rw [List.map_append]; rfl) | rw [lM] | rw [List.append_nil] | skip
 | nil =>
  rw [List.length_nil] at hla
  repeat' (first | refine goR rfl ?_ | refine goS rfl ?_ | refine tret1 rfl ?_ | refine tretN rfl ?_ | refine gY rfl rfl ?_ | refine gN rfl rfl ?_ | refine qT rfl rfl ?_ | refine qF rfl rfl ?_ | refine qF rfl (dF (by rw [lM]; omega)) ?_ | fail)
  refine loopS (fun m env σ => ∃ a b, s.bufs = a ++ b ∧ m = b.length ∧ env = [(2, .p 0 0), (3, .p 1 0), (6, tI a.length)] ∧ σ = ⟨[(0, .cells (cState s) 42), (1, .cells (cState s) 42)], 2⟩) s.bufs.length ?_ ⟨[], s.bufs, rfl, rfl, rfl, rfl⟩ ?_
  ·(refine w_ren [(0, 0), (1, 1)] rfl (by rw [hp]; intro j hj; cases hj) rfl ?_ ?_ <;> repeat' (first | exact .nil | exact .f _ rfl | exact .s _ _ _ _ _ _ rfl | exact .p _ _ _ rfl | exact .rows _ _ _ | exact .iter _ _ | exact RenL.nil _ | refine RenL.cons ?_ ?_ | refine .cells _ _ _ ?_ | refine .cons _ _ _ _ rfl ?_ ?_ | refine .cons _ _ _ _ _ rfl rfl ?_ ?_ | refine .rowsE ?_ | refine .sE rfl ?_ | exact .m _ _ rfl | refine .fE rfl ?_ | exact RenO.mB _ | exact RenO.mB [] | fail))
  rintro m env σ ⟨a, b, e, rfl, rfl, rfl⟩
  have hla : s.bufs.length = a.length + b.length := by rw [e, lA]
  cases b with
  | nil =>
   rw [List.length_nil] at hla
   repeat' (first | refine goR rfl ?_ | refine goS rfl ?_ | refine tret1 rfl ?_ | refine tretN rfl ?_ | refine gY rfl rfl ?_ | refine gN rfl rfl ?_ | refine qT rfl rfl ?_ | refine qF rfl rfl ?_ | refine qF rfl (dF (by rw [lM]; omega)) ?_ | fail)
   exact .fr rfl
  | cons x b =>
   have hx : s.bufs[a.length]? = some x := by rw [e]; exact ix
   simp only [List.length_cons] at hla
   have c2 := fun G => sameEntries_spec (G := G) x x
   simp only [eqE_t] at c2
   repeat' (first | refine goR rfl ?_ | refine goS rfl ?_ | refine tret1 rfl ?_ | refine tretN rfl ?_ | refine gY rfl rfl ?_ | refine gN rfl rfl ?_ | refine qT rfl rfl ?_ | refine qF rfl rfl ?_ | refine qT rfl (dT (by rw [lM]; omega)) ?_ | refine lT (tl_ixm rfl rfl rfl hx) ?_ | refine cA rfl (by rw [hP]; exact c2 _) rfl ?_ | fail)
   refine again (m' := b.length) (Nat.lt_succ_self _) ?_ ⟨a ++ [x], b, by rw [e]; simp, rfl, rfl, rfl⟩
   (refine w_ren [(0, 0), (1, 1)] rfl (by rw [hp]; intro j hj; cases hj) rfl ?_ ?_ <;> repeat' (first | exact .nil | exact .f _ rfl | exact .s _ _ _ _ _ _ rfl | exact .p _ _ _ rfl | exact .rows _ _ _ | exact .iter _ _ | exact RenL.nil _ | refine RenL.cons ?_ ?_ | refine .cells _ _ _ ?_ | refine .cons _ _ _ _ rfl ?_ ?_ | refine .cons _ _ _ _ _ rfl rfl ?_ ?_ | refine .rowsE ?_ | refine .sE rfl ?_ | exact .m _ _ rfl | refine .fE rfl ?_ | exact RenO.mB _ | exact RenO.mB [] | fail))
   all_goals first | rfl | (rw [w64 (by omega), lA, List.length_singleton]; rfl) | (rw [lA]; rfl) | (rw [List.map_append]; rfl) | rw [lM] | rw [List.append_nil] | skip
end
end Go.Proofs.YteegjmglkkhoeaaDoor
namespace Go.Proofs.YteegjmglkkhoeaaDoor
set_option maxRecDepth 20000
open Go Go.Proofs.YteegjmglkkhoeaaDoor.V Go.Proofs
section
attribute [local irreducible] TwS TwR thenT inBlockT retT beqL
variable {G : World → Prop}
def start0 (p : Prg) : State := ⟨startF p.syms, List.replicate p.threads.length zThr, [], 0⟩
end
end Go.Proofs.YteegjmglkkhoeaaDoor
namespace Go.Proofs.YteegjmglkkhoeaaDoor
set_option maxRecDepth 20000
open Go Go.Proofs.YteegjmglkkhoeaaDoor.V Go.Proofs
theorem cellsS_len (s : Sym) (h : (s.init.length : Int) ≤ s.size) : ((cellsS s).length : Int) = s.size := by rw [cellsS, lA, List.length_replicate]; omega
section
attribute [local irreducible] TwS TwR thenT inBlockT retT
variable {G : World → Prop}
end
end Go.Proofs.YteegjmglkkhoeaaDoor
namespace Go.Proofs.YteegjmglkkhoeaaDoor
set_option maxRecDepth 20000
open Go Go.Proofs.YteegjmglkkhoeaaDoor.V Go.Proofs
def memT (s : State) : TObj := .rows 1 (s.mem.map fun n => [tI n]) 2
def thrT (s : State) : TObj := .rows 16 (s.thr.map cThr) 80
section
attribute [local irreducible] TwS TwR thenT inBlockT retT
variable {G : World → Prop}
theorem copySt_own (s : State) (ho : okS s) (hb : s.bufs = []) : TC prog G 38 [.agg (cState s)] ⟨[], 0⟩ [] (fun r σ' => r = .agg [.s 0 1 0 s.mem.length true, .s 1 16 0 s.thr.length true, .v (.slice none 0 0), tI s.lock] ∧ σ' = ⟨[(0, memT s), (1, thrT s)], 2⟩) := by
 obtain ⟨h1, h2, h3, h4⟩ := ho
 have e1 : (s.mem.map fun n => [tI n]).length = s.mem.length := lM ..
 have e2 : (s.thr.map cThr).length = s.thr.length := lM ..
 rw [show cState s = [rwI s.mem, .lst 16 (s.thr.map cThr), .lst 1 [], tI s.lock] by rw [cState, hb]; rfl]
 refine TC.at mixedOk F38 rfl fun C hP hG hp => goF ?_; simp only [F38, targEnv, Nat.zero_add, Nat.reduceAdd]
 repeat' (first | refine goR rfl ?_ | refine goS rfl ?_ | refine tret1 rfl ?_ | refine tretN rfl ?_ | refine gY rfl rfl ?_ | refine gN rfl rfl ?_ | refine qT rfl rfl ?_ | refine qF rfl rfl ?_ | refine tr_append rfl rfl rfl (.inl rfl) (by omega) rfl ?_ | fail)
 refine loopS (fun m env σ => env = [(2, .p 0 0), (3, .p 1 0), (18, .lst 1 []), (19, tI 0), (20, tI 0)] ∧ σ = ⟨[(0, .cells [.v (.slice none 0 0), .v (.slice none 0 0), .v (.slice none 0 0), tI 0] 42), (1, .cells [.s 2 1 0 s.mem.length true, .s 3 16 0 s.thr.length true, .v (.slice none 0 0), tI s.lock] 42), (2, .rows 1 (s.mem.map fun n => [tI n]) 2), (3, .rows 16 (s.thr.map cThr) 80)], 4⟩) 0 ?_ ⟨rfl, rfl⟩ ?_
 ·(refine w_ren [(0, 1), (1, 4), (2, 5), (3, 6)] rfl (by rw [hp]; decide) rfl ?_ ?_ <;> repeat' (first | exact .nil | exact .f _ rfl | exact .s _ _ _ _ _ _ rfl | exact .p _ _ _ rfl | exact .rows _ _ _ | exact .iter _ _ | exact RenL.nil _ | refine RenL.cons ?_ ?_ | refine .cells _ _ _ ?_ | refine .cons _ _ _ _ rfl ?_ ?_ | refine .cons _ _ _ _ _ rfl rfl ?_ ?_ | refine .rowsE ?_ | refine .sE rfl ?_ | exact .m _ _ rfl | refine .fE rfl ?_ | exact rnT_ok rfl | exact RenO.mB _ | exact RenO.mB [] | fail))
  all_goals omega
 rintro m env σ ⟨rfl, rfl⟩
 repeat' (first | refine goR rfl ?_ | refine goS rfl ?_ | refine tret1 rfl ?_ | refine tretN rfl ?_ | refine gY rfl rfl ?_ | refine gN rfl rfl ?_ | refine qT rfl rfl ?_ | refine qF rfl rfl ?_ | fail)
 refine twret rfl ?_ ⟨rfl, rfl⟩
 (refine w_ren [(0, 2), (1, 3)] rfl (by rw [hp]; decide) rfl ?_ ?_ <;> repeat' (first | exact .nil | exact .f _ rfl | exact .s _ _ _ _ _ _ rfl | exact .p _ _ _ rfl | exact .rows _ _ _ | exact .iter _ _ | exact RenL.nil _ | refine RenL.cons ?_ ?_ | refine .cells _ _ _ ?_ | refine .cons _ _ _ _ rfl ?_ ?_ | refine .cons _ _ _ _ _ rfl rfl ?_ ?_ | refine .rowsE ?_ | refine .sE rfl ?_ | exact .m _ _ rfl | refine .fE rfl ?_ | exact rnT_ok rfl | exact RenO.mB _ | exact RenO.mB [] | fail))
end
end Go.Proofs.YteegjmglkkhoeaaDoor
namespace Go.Proofs.YteegjmglkkhoeaaDoor
set_option maxRecDepth 20000
open Go Go.Proofs.YteegjmglkkhoeaaDoor.V Go.Proofs
section
attribute [local irreducible] TwS TwR thenT inBlockT retT
variable {G : World → Prop}
theorem startS_own (p : Prg) (hs : okS (start0 p)) (hb : (start0 p).bufs = []) : TC prog G 21 [.fp (cCore p) 0] ⟨[], 0⟩ [] (fun r σ' => r = .agg [.s 0 1 0 (start0 p).mem.length true, .s 1 16 0 (start0 p).thr.length true, .v (.slice none 0 0), tI (start0 p).lock] ∧ σ' = ⟨[(0, memT (start0 p)), (1, thrT (start0 p))], 2⟩) := by
 have c := copySt_own (G := G) (start0 p) hs hb
 refine TC.at mixedOk F21 rfl fun C hP hG hp => goF ?_; simp only [F21, targEnv, Nat.zero_add, Nat.reduceAdd]
 repeat' (first | refine goR rfl ?_ | refine goS rfl ?_ | refine tret1 rfl ?_ | refine tretN rfl ?_ | refine gY rfl rfl ?_ | refine gN rfl rfl ?_ | refine qT rfl rfl ?_ | refine qF rfl rfl ?_ | refine tr_mcallB hP hG (c) rfl [] rfl rfl rfl rfl rfl rfl ?_ | fail)
 refine twret rfl ?_ ⟨rfl, rfl⟩
 (refine w_ren [(0, 1), (1, 2)] rfl (by rw [hp]; decide) rfl ?_ ?_ <;> repeat' (first | exact .nil | exact .f _ rfl | exact .s _ _ _ _ _ _ rfl | exact .p _ _ _ rfl | exact .rows _ _ _ | exact .iter _ _ | exact RenL.nil _ | refine RenL.cons ?_ ?_ | refine .cells _ _ _ ?_ | refine .cons _ _ _ _ rfl ?_ ?_ | refine .cons _ _ _ _ _ rfl rfl ?_ ?_ | refine .rowsE ?_ | refine .sE rfl ?_ | exact .m _ _ rfl | refine .fE rfl ?_ | exact rnT_ok rfl | exact RenO.mB _ | exact RenO.mB [] | fail))
end
end Go.Proofs.YteegjmglkkhoeaaDoor
