/-
  Walks of functions of the program, and what the laws need of them.
-/
import Derived.Test.YtnphhelbianjpaaGreatDoorRPC
import Derived.Test.YtnphhelbianjpaaGreatDoorVH
set_option linter.all false
set_option linter.unusedSimpArgs false
set_option linter.unusedVariables false
set_option linter.unnecessarySimpa false
namespace Go.Proofs.YtnphhelbianjpaaGreatDoor
set_option maxRecDepth 20000
open Go Go.Proofs.YtnphhelbianjpaaGreatDoor.V Go.Proofs
section
attribute [local irreducible] TwS TwR thenT inBlockT retT
variable {G : World → Prop}
theorem copy_spec (p : Prg) (hp : okP p) : Pure prog G 63 [.agg (cPrg p)] (.agg (cPrg p)) := by
 obtain ⟨h1, h2, h3, h4⟩ := hp
 refine Pure.at mixedOk F63 rfl fun C hP hG hp => goF ?_; simp only [F63, targEnv, Nat.zero_add, Nat.reduceAdd]
 repeat' (first | refine goR rfl ?_ | refine goS rfl ?_ | refine tret1 rfl ?_ | refine tretN rfl ?_ | refine gY rfl rfl ?_ | refine gN rfl rfl ?_ | refine qT rfl rfl ?_ | refine qF rfl rfl ?_ | fail)
 refine loopS (fun m env σ => ∃ a b, p.syms = a ++ b ∧ m = b.length ∧ env = [(1, .p 0 0), (2, .p 1 0), (3, .p 2 0), (12, .lst 3 (p.syms.map cSym)), (13, tI p.syms.length), (14, tI a.length)] ∧
  σ = ⟨[(0, .cells (cPrg p) 28), (1, .cells [.v (.slice none 0 0), .v (.slice none 0 0)] 28), (2, .cells [.s 3 3 0 a.length true, .v (.slice none 0 0)] 28), (3, .rows 3 (a.map cSym) 65)], 4⟩) p.syms.length
  ((w_virtC (j := 2) (i := 0) 3 65 rfl rfl).trans ?_) ⟨[], p.syms, rfl, rfl, rfl, rfl⟩ ?_
 ·(refine w_ren [(0, 0), (1, 1), (2, 2), (3, 3)] rfl (by rw [hp]; intro j hj; cases hj) rfl ?_ ?_ <;> repeat' (first | exact .nil | exact .f _ rfl | exact .s _ _ _ _ _ _ rfl | exact .p _ _ _ rfl | exact .rows _ _ _ | exact .iter _ _ | exact RenL.nil _ | refine RenL.cons ?_ ?_ | refine .cells _ _ _ ?_ | refine .cons _ _ _ _ rfl ?_ ?_ | refine .cons _ _ _ _ _ rfl rfl ?_ ?_ | refine .rowsE ?_ | refine .sE rfl ?_ | exact .m _ _ rfl | refine .fE rfl ?_ | exact RenO.mB _ | exact RenO.mB [] | fail))
  rw [lM]
 rintro m env σ ⟨a, b, e, rfl, rfl, rfl⟩
 have hla : p.syms.length = a.length + b.length := by rw [e, lA]
 cases b with
 | cons x b =>
  have hx : p.syms[a.length]? = some x := by rw [e]; exact ix
  simp only [List.length_cons] at hla
  have hxs := h2 x (by rw [e]; simp)
  have hxi : (x.init.map fun n => [tI n]).length = x.init.length := lM ..
  repeat' (first | refine goR rfl ?_ | refine goS rfl ?_ | refine tret1 rfl ?_ | refine tretN rfl ?_ | refine gY rfl rfl ?_ | refine gN rfl rfl ?_ | refine qT rfl rfl ?_ | refine qF rfl rfl ?_ | refine qT rfl (dT (by omega)) ?_ | refine lT (tl_ixm rfl rfl rfl hx) ?_ | refine tr_appF rfl rfl rfl (.inl rfl) (by omega) rfl ?_ | refine tr_append rfl rfl (by rw [lM]) (.inr (.inr ⟨_, _, _, _, rfl, rfl, rfl⟩)) (by simp only [List.length_cons, List.length_nil]; omega) rfl ?_ | fail)
  refine again (m' := b.length) (Nat.lt_succ_self _) ?_ ⟨a ++ [x], b, by rw [e]; simp, rfl, rfl, rfl⟩
  (refine w_ren [(0, 0), (1, 1), (2, 2), (3, 8)] rfl (by rw [hp]; intro j hj; cases hj) rfl ?_ ?_ <;> repeat' (first | exact .nil | exact .f _ rfl | exact .s _ _ _ _ _ _ rfl | exact .p _ _ _ rfl | exact .rows _ _ _ | exact .iter _ _ | exact RenL.nil _ | refine RenL.cons ?_ ?_ | refine .cells _ _ _ ?_ | refine .cons _ _ _ _ rfl ?_ ?_ | refine .cons _ _ _ _ _ rfl rfl ?_ ?_ | refine .rowsE ?_ | refine .sE rfl ?_ | exact .m _ _ rfl | refine .fE rfl ?_ | exact RenO.mB _ | exact RenO.mB [] | fail))
  all_goals first | rfl | (rw [w64 (by omega), lA, List.length_singleton]; rfl) | (rw [lA]; rfl) | (rw [List.map_append]; rfl) | rw [lM] | rw [List.append_nil] | skip
 | nil =>
  rw [List.length_nil] at hla
  rw [List.append_nil] at e
  repeat' (first | refine goR rfl ?_ | refine goS rfl ?_ | refine tret1 rfl ?_ | refine tretN rfl ?_ | refine gY rfl rfl ?_ | refine gN rfl rfl ?_ | refine qT rfl rfl ?_ | refine qF rfl rfl ?_ | refine qF rfl (dF (by omega)) ?_ | fail)
  refine loopS (fun m env σ => ∃ a b, p.threads = a ++ b ∧ m = b.length ∧ env = [(2, .p 1 0), (3, .p 2 0), (31, .lst 1 (p.threads.map cTh)), (32, tI p.threads.length), (33, tI a.length)] ∧
   σ = ⟨[(1, .cells [.v (.slice none 0 0), .v (.slice none 0 0)] 28), (2, .cells [.lst 3 (p.syms.map cSym), .s 3 1 0 a.length true] 28), (3, .rows 1 (a.map cTh) 69)], 4⟩) p.threads.length
   ((w_freezeC (j := 2) (i := 0) (k := 3) rfl rfl rfl (by decide) (.s _ _ (by rw [lM]))).trans ((w_virtC (j := 2) (i := 1) 1 69 rfl rfl).trans ?_)) ⟨[], p.threads, rfl, rfl, rfl, rfl⟩ ?_
  ·(refine w_ren [(1, 1), (2, 2), (3, 4)] rfl (by rw [hp]; intro j hj; cases hj) rfl ?_ ?_ <;> repeat' (first | exact .nil | exact .f _ rfl | exact .s _ _ _ _ _ _ rfl | exact .p _ _ _ rfl | exact .rows _ _ _ | exact .iter _ _ | exact RenL.nil _ | refine RenL.cons ?_ ?_ | refine .cells _ _ _ ?_ | refine .cons _ _ _ _ rfl ?_ ?_ | refine .cons _ _ _ _ _ rfl rfl ?_ ?_ | refine .rowsE ?_ | refine .sE rfl ?_ | exact .m _ _ rfl | refine .fE rfl ?_ | exact RenO.mB _ | exact RenO.mB [] | fail))
   ·rw [lM]
   ·rw [e]
  rintro m env σ ⟨a, b, e2, rfl, rfl, rfl⟩
  have hla2 : p.threads.length = a.length + b.length := by rw [e2, lA]
  cases b with
  | nil =>
   rw [List.length_nil] at hla2
   rw [List.append_nil] at e2
   repeat' (first | refine goR rfl ?_ | refine goS rfl ?_ | refine tret1 rfl ?_ | refine tretN rfl ?_ | refine gY rfl rfl ?_ | refine gN rfl rfl ?_ | refine qT rfl rfl ?_ | refine qF rfl rfl ?_ | refine qF rfl (dF (by omega)) ?_ | fail)
   rw [← e2]
   exact .aggL (.cons (.f _ rfl) (.cons (.s 3 1 _ true _ 69 rfl (by rw [lM])) .nil))
  | cons x b =>
   have hx : p.threads[a.length]? = some x := by rw [e2]; exact ix
   simp only [List.length_cons] at hla2
   have hxs := h4 x (by rw [e2]; simp)
   repeat' (first | refine goR rfl ?_ | refine goS rfl ?_ | refine tret1 rfl ?_ | refine tretN rfl ?_ | refine gY rfl rfl ?_ | refine gN rfl rfl ?_ | refine qT rfl rfl ?_ | refine qF rfl rfl ?_ | refine qT rfl (dT (by omega)) ?_ | refine lT (tl_ixm rfl rfl rfl hx) ?_ | fail)
   refine loopS (fun m env σ => ∃ c d, x = c ++ d ∧ m = d.length ∧ env = [(2, .p 1 0), (3, .p 2 0), (8, .p 4 0), (31, .lst 1 (p.threads.map cTh)), (32, tI p.threads.length), (33, tI a.length), (38, .lst 13 (x.map cIns)), (39, tI x.length), (40, tI c.length)] ∧
    σ = ⟨[(1, .cells [.v (.slice none 0 0), .v (.slice none 0 0)] 28), (2, .cells [.lst 3 (p.syms.map cSym), .s 3 1 0 a.length true] 28), (3, .rows 1 (a.map cTh) 69),
     (4, .cells [.s 5 13 0 c.length true] 69), (5, .rows 13 (c.map cIns) 74)], 6⟩) x.length ((w_virtC (j := 5) (i := 0) 13 74 rfl rfl).trans ?_) ⟨[], x, rfl, rfl, rfl, rfl⟩ ?_
   ·(refine w_ren [(1, 1), (2, 2), (3, 3), (4, 5), (5, 6)] rfl (by rw [hp]; intro j hj; cases hj) rfl ?_ ?_ <;> repeat' (first | exact .nil | exact .f _ rfl | exact .s _ _ _ _ _ _ rfl | exact .p _ _ _ rfl | exact .rows _ _ _ | exact .iter _ _ | exact RenL.nil _ | refine RenL.cons ?_ ?_ | refine .cells _ _ _ ?_ | refine .cons _ _ _ _ rfl ?_ ?_ | refine .cons _ _ _ _ _ rfl rfl ?_ ?_ | refine .rowsE ?_ | refine .sE rfl ?_ | exact .m _ _ rfl | refine .fE rfl ?_ | exact RenO.mB _ | exact RenO.mB [] | fail))
    all_goals first | rfl | (rw [w64 (by omega), lA, List.length_singleton]; rfl) | (rw [lA]; rfl) | (rw [List.map_append]; rfl) | rw [lM] | rw [List.append_nil] | skip
   rintro m env σ ⟨c, d, e3, rfl, rfl, rfl⟩
   have hlc : x.length = c.length + d.length := by rw [e3, lA]
   have hxl := hxs.1.1
   cases d with
   | nil =>
    rw [List.length_nil] at hlc
    rw [List.append_nil] at e3
    refine ts_weak (w_freezeC (j := 4) (i := 0) (k := 5) rfl rfl rfl (by decide) (.s _ _ (by rw [lM]))) ?_
    repeat' (first | refine goR rfl ?_ | refine goS rfl ?_ | refine tret1 rfl ?_ | refine tretN rfl ?_ | refine gY rfl rfl ?_ | refine gN rfl rfl ?_ | refine qT rfl rfl ?_ | refine qF rfl rfl ?_ | refine qF rfl (dF (by omega)) ?_ | refine tr_append rfl rfl (by rw [lM]) (.inr (.inr ⟨_, _, _, _, rfl, rfl, rfl⟩)) (by simp only [List.length_cons, List.length_nil]; omega) rfl ?_ | fail)
    refine again (m' := b.length) (Nat.lt_succ_self _) ?_ ⟨a ++ [x], b, by rw [e2]; simp, rfl, rfl, rfl⟩
    (refine w_ren [(1, 1), (2, 2), (3, 7)] rfl (by rw [hp]; intro j hj; cases hj) rfl ?_ ?_ <;> repeat' (first | exact .nil | exact .f _ rfl | exact .s _ _ _ _ _ _ rfl | exact .p _ _ _ rfl | exact .rows _ _ _ | exact .iter _ _ | exact RenL.nil _ | refine RenL.cons ?_ ?_ | refine .cells _ _ _ ?_ | refine .cons _ _ _ _ rfl ?_ ?_ | refine .cons _ _ _ _ _ rfl rfl ?_ ?_ | refine .rowsE ?_ | refine .sE rfl ?_ | exact .m _ _ rfl | refine .fE rfl ?_ | exact RenO.mB _ | exact RenO.mB [] | fail))
    all_goals first | rfl | (rw [w64 (by omega), lA, List.length_singleton]; rfl) | (rw [lA]; rfl) | (rw [List.map_append]; rfl) | rw [lM] | rw [List.append_nil] | skip
    all_goals (rw [List.map_append, e3]; rfl)
   | cons y d =>
    have hy : x[c.length]? = some y := by rw [e3]; exact ix
    simp only [List.length_cons] at hlc
    have hys := (hxs.2 y (by rw [e3]; simp)).2.1
    have hym : (y.labels.map fun s => [tS s]).length = y.labels.length := lM ..
    repeat' (first | refine goR rfl ?_ | refine goS rfl ?_ | refine tret1 rfl ?_ | refine tretN rfl ?_ | refine gY rfl rfl ?_ | refine gN rfl rfl ?_ | refine qT rfl rfl ?_ | refine qF rfl rfl ?_ | refine qT rfl (dT (by omega)) ?_ | refine lT (tl_ixm rfl rfl rfl hy) ?_ | refine tr_appF rfl rfl rfl (.inl rfl) (by omega) rfl ?_ | refine tr_append rfl rfl (by rw [lM]) (.inr (.inr ⟨_, _, _, _, rfl, rfl, rfl⟩)) (by simp only [List.length_cons, List.length_nil]; omega) rfl ?_ | fail)
    refine again (m' := d.length) (Nat.lt_succ_self _) ?_ ⟨c ++ [y], d, by rw [e3]; simp, rfl, rfl, rfl⟩
    (refine w_ren [(1, 1), (2, 2), (3, 3), (4, 4), (5, 10)] rfl (by rw [hp]; intro j hj; cases hj) rfl ?_ ?_ <;> repeat' (first | exact .nil | exact .f _ rfl | exact .s _ _ _ _ _ _ rfl | exact .p _ _ _ rfl | exact .rows _ _ _ | exact .iter _ _ | exact RenL.nil _ | refine RenL.cons ?_ ?_ | refine .cells _ _ _ ?_ | refine .cons _ _ _ _ rfl ?_ ?_ | refine .cons _ _ _ _ _ rfl rfl ?_ ?_ | refine .rowsE ?_ | refine .sE rfl ?_ | exact .m _ _ rfl | refine .fE rfl ?_ | exact RenO.mB _ | exact RenO.mB [] | fail))
    all_goals first | rfl | (rw [w64 (by omega), lA, List.length_singleton]; rfl) | (rw [lA]; rfl) | (rw [List.map_append]; rfl) | rw [lM] | rw [List.append_nil] | skip
end
end Go.Proofs.YtnphhelbianjpaaGreatDoor
namespace Go.Proofs.YtnphhelbianjpaaGreatDoor
set_option maxRecDepth 20000
open Go Go.Proofs.YtnphhelbianjpaaGreatDoor.V Go.Proofs

def inR (n : Int) : Prop := -9223372036854775808 ≤ n ∧ n ≤ 9223372036854775807
def g8 (j a0 a1 a2 a3 a4 a5 a6 a7 : Int) : Int := if j = 0 then a0 else if j = 1 then a1 else if j = 2 then a2 else if j = 3 then a3 else if j = 4 then a4 else if j = 5 then a5 else if j = 6 then a6 else a7
def s1 (i j v a : Int) : Int := if j = i then v else a
theorem at8 {a0 a1 a2 a3 a4 a5 a6 a7 : Int} {tl : List TV} {j : Int} (h : 0 ≤ j ∧ j ≤ 7) {o : Nat} (ho : o = j.toNat) : (tI a0 :: tI a1 :: tI a2 :: tI a3 :: tI a4 :: tI a5 :: tI a6 :: tI a7 :: tl)[o]? = some (tI (g8 j a0 a1 a2 a3 a4 a5 a6 a7)) := by
 subst ho
 have : j = 0 ∨ j = 1 ∨ j = 2 ∨ j = 3 ∨ j = 4 ∨ j = 5 ∨ j = 6 ∨ j = 7 := by omega
 rcases this with rfl | rfl | rfl | rfl | rfl | rfl | rfl | rfl <;> rfl
theorem put8 {a0 a1 a2 a3 a4 a5 a6 a7 v : Int} {tl : List TV} {j : Int} (h : 0 ≤ j ∧ j ≤ 7) {o : Nat} (ho : o = j.toNat) : putAt o [tI v] (tI a0 :: tI a1 :: tI a2 :: tI a3 :: tI a4 :: tI a5 :: tI a6 :: tI a7 :: tl) =
  some (tI (s1 0 j v a0) :: tI (s1 1 j v a1) :: tI (s1 2 j v a2) :: tI (s1 3 j v a3) :: tI (s1 4 j v a4) :: tI (s1 5 j v a5) :: tI (s1 6 j v a6) :: tI (s1 7 j v a7) :: tl) := by
 subst ho
 have : j = 0 ∨ j = 1 ∨ j = 2 ∨ j = 3 ∨ j = 4 ∨ j = 5 ∨ j = 6 ∨ j = 7 := by omega
 rcases this with rfl | rfl | rfl | rfl | rfl | rfl | rfl | rfl <;> first | rfl | simp [putAt, s1]
theorem tl_ldR {P : Program} {w0 : World} {env : TEnv} {σ : TS} {x : Operand} {k o : Nat} {cs : List TV} {ty : TypeId} {r : TV} (hx : tO env x = some (.p k o)) (hk : σ.get k = some (.cells cs ty)) (hr : cs[o]? = some r) : TL P w0 env σ (.ld 1 false x) r := by
 refine tl_ldp hx hk ?_
 obtain ⟨h1, h2⟩ := List.getElem?_eq_some_iff.1 hr
 unfold cutT
 simp only
 rw [List.drop_eq_getElem_cons h1, h2]
def getR (x : Thr) (j : Int) : Int := g8 j x.r0 x.r1 x.r2 x.r3 x.r4 x.r5 x.r6 x.r7
def setR (x : Thr) (j v : Int) : Thr := { x with r0 := s1 0 j v x.r0, r1 := s1 1 j v x.r1, r2 := s1 2 j v x.r2, r3 := s1 3 j v x.r3, r4 := s1 4 j v x.r4, r5 := s1 5 j v x.r5, r6 := s1 6 j v x.r6, r7 := s1 7 j v x.r7 }
def cRegs (x : Thr) : List TV := [tI x.r0, tI x.r1, tI x.r2, tI x.r3, tI x.r4, tI x.r5, tI x.r6, tI x.r7]
def numW (o : Opd) (x : Thr) : Int := if o.kind = 1 then getR x o.reg else o.n
section
attribute [local irreducible] TwS TwR thenT inBlockT retT
variable {G : World → Prop}
theorem number_spec (o : Opd) (x : Thr) (hr : o.kind = 1 → 0 ≤ o.reg ∧ o.reg ≤ 7) : Pure prog G 76 [.agg (cOpd o), .agg (cThr x)] (tI (numW o x)) := by
 refine Pure.at mixedOk F76 rfl fun C hP hG hp => goF ?_; simp only [F76, targEnv, Nat.zero_add, Nat.reduceAdd]
 repeat' (first | refine goR rfl ?_ | refine goS rfl ?_ | refine tret1 rfl ?_ | refine tretN rfl ?_ | refine gY rfl rfl ?_ | refine gN rfl rfl ?_ | refine qT rfl rfl ?_ | refine qF rfl rfl ?_ | refine lT (tl_iaAp rfl rfl (by have := hr (by assumption); omega)) ?_ | refine lT (tl_ldR rfl rfl (at8 (hr (by assumption)) (by omega))) ?_ | ((first | refine gS rfl (fun h => ?_) (fun h => ?_) | refine ts_cond rfl (fun h => ?_) (fun h => ?_)) <;> try simp only [bs0, beq_iff_eq] at h) | fail)
 all_goals refine .vi ?_
 ·rw [numW, if_pos (by assumption)]; rfl
 ·rw [numW, if_neg (by assumption)]
theorem number_spec2 (o : Opd) (x : Thr) (hr : o.kind = 1 → 0 ≤ o.reg ∧ o.reg ≤ 7) : Pure prog G 83 [.agg (cOpd o), .agg (cThr x)] (tI (numW o x)) := by
 refine Pure.at mixedOk F83 rfl fun C hP hG hp => goF ?_; simp only [F83, targEnv, Nat.zero_add, Nat.reduceAdd]
 repeat' (first | refine goR rfl ?_ | refine goS rfl ?_ | refine tret1 rfl ?_ | refine tretN rfl ?_ | refine gY rfl rfl ?_ | refine gN rfl rfl ?_ | refine qT rfl rfl ?_ | refine qF rfl rfl ?_ | refine lT (tl_iaAp rfl rfl (by have := hr (by assumption); omega)) ?_ | refine lT (tl_ldR rfl rfl (at8 (hr (by assumption)) (by omega))) ?_ | ((first | refine gS rfl (fun h => ?_) (fun h => ?_) | refine ts_cond rfl (fun h => ?_) (fun h => ?_)) <;> try simp only [bs0, beq_iff_eq] at h) | fail)
 all_goals refine .vi ?_
 ·rw [numW, if_pos (by assumption)]; rfl
 ·rw [numW, if_neg (by assumption)]
end
end Go.Proofs.YtnphhelbianjpaaGreatDoor
namespace Go.Proofs.YtnphhelbianjpaaGreatDoor
set_option maxRecDepth 20000
open Go Go.Proofs.YtnphhelbianjpaaGreatDoor.V Go.Proofs

structure Line where
 i : Ins
 a : Opd
 has : Bool
 reads : Bool
 locked : Bool
 two : Bool
 target : Int
def cLine (l : Line) : List TV := [tI l.i.op, tB l.i.lock, tI l.i.cond, tI l.i.a.kind, tI l.i.a.reg, tI l.i.a.sym, tI l.i.a.n, tI l.i.b.kind, tI l.i.b.reg, tI l.i.b.sym, tI l.i.b.n, tS l.i.to, .lst 1 (l.i.labels.map fun s => [tS s]),
 tI l.a.kind, tI l.a.reg, tI l.a.sym, tI l.a.n, tB l.has, tB l.reads, tB l.locked, tB l.two, tI l.target]
def opdOf (i : Ins) : Opd := if writesB i = true then writesO i else readsO i
def lineOf (i : Ins) (target : Int) : Line := ⟨i, opdOf i, readsB i || writesB i, readsB i, lockedB i, decide (partsI i = 2), target⟩
def noIns : Ins := ⟨0, false, 0, noOpd, noOpd, bs [], []⟩
def noLine : Line := ⟨noIns, noOpd, false, false, false, false, 0⟩
section
attribute [local irreducible] TwS TwR thenT inBlockT retT readsB writesB readsO writesO lockedB partsI
theorem known_spec (i : Ins) (m : List (ByteArray × Int)) (hs : i.to.size ≤ 1000000000000) : Pure prog Tabs 66 [.agg (cIns i), .fm (mapG tI m)] (.agg (cLine (lineOf i ((lkp i.to m).getD 0)))) := by
 refine Pure.at mixedOk F66 rfl fun C hP hG hp => goF ?_; simp only [F66, targEnv, Nat.zero_add, Nat.reduceAdd]
 have hz : ∀ (o : Option Int), orZ tI (.int .i64 0) o = tI (o.getD 0) := fun o => by cases o <;> rfl
 repeat' (first | refine goR rfl ?_ | refine goS rfl ?_ | refine tret1 rfl ?_ | refine tretN rfl ?_ | refine gY rfl rfl ?_ | refine gN rfl rfl ?_ | refine qT rfl rfl ?_ | refine qF rfl rfl ?_ | refine cA rfl (by rw [hP, hG]; exact reads_spec i hs) rfl ?_ | refine cA rfl (by rw [hP, hG]; exact writes_spec i hs) rfl ?_ | refine cA rfl (by rw [hP, hG]; exact locked_spec i hs) rfl ?_ | refine cA rfl (by rw [hP, hG]; exact parts_spec i hs) rfl ?_ | (refine lT (tl_mapF rfl rfl rfl) ?_; rw [hz]) | ((first | refine gS rfl (fun h => ?_) (fun h => ?_) | refine ts_cond rfl (fun h => ?_) (fun h => ?_)) <;> try simp only [bs0, beq_iff_eq] at h) | fail)
 ·simp only [lineOf, opdOf, h, Bool.or_true, if_true]; exact .fr rfl
 ·simp only [lineOf, opdOf, h, Bool.or_false, if_false, Bool.false_eq_true]; exact .fr rfl
end
def basesF : Int → List Sym → List Int
 | _, [] => []
 | at', s :: l => at' :: basesF (at' + s.size) l
def labMapF : Int → List Ins → List (ByteArray × Int)
 | _, [] => []
 | k, i :: l => (i.labels.map fun s => (s, k)) ++ labMapF (k + 1) l
def labMap (t : List Ins) : List (ByteArray × Int) := labMapF 0 t
def codeOf (t : List Ins) : List Line := t.map fun i => lineOf i ((lkp i.to (labMap t)).getD 0)
def cCode (l : List Line) : List TV := [.lst 22 (l.map cLine)]
def startF (l : List Sym) : List Int := l.flatMap fun s => s.init ++ List.replicate (s.size - s.init.length).toNat 0
def zThr : Thr := ⟨0, 0, 0, 0, 0, 0, 0, 0, ⟨false, false, false, false⟩, 0, 0, 0, 0⟩
def cCore (p : Prg) : List TV := [.lst 3 (p.syms.map cSym), .lst 1 (p.threads.map cTh), rwI (basesF 0 p.syms), .lst 1 ((p.threads.map codeOf).map cCode), rwI (startF p.syms), .lst 16 ((List.replicate p.threads.length zThr).map cThr), .lst 1 [], tI 0]
def getT (p : Prg) (t : Int) : Option (List Ins) := if 0 ≤ t then p.threads[t.toNat]? else none
def curI (p : Prg) (t : Int) (x : Thr) : Option Ins := if x.st = 0 ∧ 0 ≤ x.pc then (getT p t).bind fun l => l[x.pc.toNat]? else none
def phB (i : Ins) (x : Thr) : Bool := decide (x.ph = 0) || (decide (x.ph = 1) && decide (partsI i = 2))
def tgtOf (p : Prg) (t : Int) (i : Ins) : Int := match getT p t with | some l => (lkp i.to (labMap l)).getD 0 | none => 0
def lineP (p : Prg) (t : Int) (x : Thr) : Line × Bool := match curI p t x with
 | some i => (lineOf i (tgtOf p t i), phB i x)
 | none => (noLine, false)
section
attribute [local irreducible] TwS TwR thenT inBlockT retT readsB writesB readsO writesO lockedB partsI lineOf
variable {G : World → Prop}
theorem code_get {p : Prg} {t : Int} {l : List Ins} (h : getT p t = some l) : 0 ≤ t ∧ (p.threads.map codeOf)[t.toNat]? = some (codeOf l) := by
 unfold getT at h
 split at h
 ·exact ⟨by assumption, by rw [List.getElem?_map, h]; rfl⟩
 ·cases h
theorem line_spec (p : Prg) (t : Int) (x : Thr) : Pure prog G 73 [.fp (cCore p) 0, tI t, .agg (cThr x)] (.tup [.agg (cLine (lineP p t x).1), tB (lineP p t x).2]) := by
 refine Pure.at mixedOk F73 rfl fun C hP hG hp => goF ?_; simp only [F73, targEnv, Nat.zero_add, Nat.reduceAdd]
 have hml : ((p.threads.map codeOf).map cCode).length = p.threads.length := by rw [lM, lM]
 cases hg : getT p t with
 | none =>
  have hcur : curI p t x = none := by unfold curI; rw [hg]; split <;> rfl
  have hno : t < 0 ∨ (p.threads.length : Int) ≤ t := by
   unfold getT at hg
   split at hg
   ·have := List.getElem?_eq_none_iff.1 hg; omega
   ·omega
  rw [show lineP p t x = (noLine, false) by rw [lineP, hcur]]
  repeat' (first | refine goR rfl ?_ | refine goS rfl ?_ | refine tret1 rfl ?_ | refine tretN rfl ?_ | refine gY rfl rfl ?_ | refine gN rfl rfl ?_ | refine qT rfl rfl ?_ | refine qF rfl rfl ?_ | ((first | refine gS rfl (fun h => ?_) (fun h => ?_) | refine ts_cond rfl (fun h => ?_) (fun h => ?_)) <;> (try simp only [bs0, beq_iff_eq] at h) <;> try (exfalso; omega; done)) | fail)
  all_goals repeat' (first | exact FzL.nil | refine FzL.cons ?_ ?_ | exact .nil _ | exact .f _ rfl | exact .frT rfl | refine .tupL ?_ | refine .aggL ?_ | exact .s _ _ _ _ _ _ rfl rfl | refine .pL rfl ?_)
 | some l =>
  obtain ⟨h0, hcg⟩ := code_get hg
  have hlt : t < (p.threads.length : Int) := by
   have := (List.getElem?_eq_some_iff.1 hcg).1
   rw [lM] at this; omega
  have hcl : ((codeOf l).map cLine).length = l.length := by rw [lM, codeOf, lM]
  by_cases hc : x.st = 0 ∧ 0 ≤ x.pc ∧ x.pc < (l.length : Int)
  ·have hlt2 : x.pc.toNat < l.length := by omega
   have hgi : l[x.pc.toNat]? = some l[x.pc.toNat] := List.getElem?_eq_getElem hlt2
   generalize l[x.pc.toNat] = i at hgi
   have hcur : curI p t x = some i := by unfold curI; rw [hg, if_pos ⟨hc.1, hc.2.1⟩]; exact hgi
   have hci : (codeOf l)[x.pc.toNat]? = some (lineOf i (tgtOf p t i)) := by
    rw [codeOf, List.getElem?_map, hgi, tgtOf, hg]; rfl
   have htw : (lineOf i (tgtOf p t i)).two = decide (partsI i = 2) := by with_unfolding_all rfl
   rw [show lineP p t x = (lineOf i (tgtOf p t i), phB i x) by rw [lineP, hcur]]
   generalize lineOf i (tgtOf p t i) = z at hci htw
   repeat' (first | refine goR rfl ?_ | refine goS rfl ?_ | refine tret1 rfl ?_ | refine tretN rfl ?_ | refine gY rfl rfl ?_ | refine gN rfl rfl ?_ | refine qT rfl rfl ?_ | refine qF rfl rfl ?_ | refine lT (tl_ixm rfl rfl (by omega) hcg) ?_ | refine lT (tl_ixm rfl rfl (by omega) hci) ?_ | ((first | refine gS rfl (fun h => ?_) (fun h => ?_) | refine ts_cond rfl (fun h => ?_) (fun h => ?_)) <;> (try simp only [bs0, beq_iff_eq] at h) <;> try (exfalso; omega; done)) | fail)
   all_goals refine .eqT rfl ?_
   ·rw [show phB i x = true by unfold phB; rw [dT ‹x.ph = 0›]; rfl]; rfl
   ·rw [show phB i x = z.two by unfold phB; rw [htw, dF ‹¬ x.ph = 0›, dT ‹x.ph = 1›]; rfl]; rfl
   ·rw [show phB i x = false by unfold phB; rw [dF ‹¬ x.ph = 0›, dF ‹¬ x.ph = 1›]; rfl]; rfl
  ·have hcur : curI p t x = none := by
    unfold curI
    split
    ·rename_i h1
     rw [hg]
     exact List.getElem?_eq_none_iff.2 (by omega)
    ·rfl
   rw [show lineP p t x = (noLine, false) by rw [lineP, hcur]]
   repeat' (first | refine goR rfl ?_ | refine goS rfl ?_ | refine tret1 rfl ?_ | refine tretN rfl ?_ | refine gY rfl rfl ?_ | refine gN rfl rfl ?_ | refine qT rfl rfl ?_ | refine qF rfl rfl ?_ | refine lT (tl_ixm rfl rfl (by omega) hcg) ?_ | ((first | refine gS rfl (fun h => ?_) (fun h => ?_) | refine ts_cond rfl (fun h => ?_) (fun h => ?_)) <;> (try simp only [bs0, beq_iff_eq] at h) <;> try (exfalso; omega; done)) | fail)
   all_goals repeat' (first | exact FzL.nil | refine FzL.cons ?_ ?_ | exact .nil _ | exact .f _ rfl | exact .frT rfl | refine .tupL ?_ | refine .aggL ?_ | exact .s _ _ _ _ _ _ rfl rfl | refine .pL rfl ?_)
end
end Go.Proofs.YtnphhelbianjpaaGreatDoor
namespace Go.Proofs.YtnphhelbianjpaaGreatDoor
set_option maxRecDepth 20000
open Go Go.Proofs.YtnphhelbianjpaaGreatDoor.V Go.Proofs

theorem syms_ok : ∀ (l : List Sym) (seen : List ByteArray), symsC seen l = 0 → ∀ s ∈ l, symBad s = false
 | [], _, _, s, h => by cases h
 | x :: l, seen, h, s, hs => by
  simp only [symsC] at h
  split at h
  ·split at h
   ·cases h
   ·split at h
    ·cases h
    ·rcases List.mem_cons.1 hs with rfl | hs
     ·simpa using ‹¬ symBad s = true›
     ·exact syms_ok l _ h s hs
  ·cases h
theorem check_syms {p : Prg} (h : checkC p = 0) : p.syms.length ≤ 64 ∧ p.threads.length ≤ 64 ∧ (∀ s ∈ p.syms, 1 ≤ s.size ∧ s.size ≤ 64 ∧ (s.init.length : Int) ≤ s.size) ∧ thsC p.syms p.threads = 0 := by
 unfold checkC at h
 split at h
 ·cases h
 ·split at h
  ·rename_i h1 h2
   refine ⟨by omega, by omega, fun s hs => ?_, h⟩
   have := syms_ok _ _ h2 s hs
   unfold symBad at this
   simp only [decide_eq_false_iff_not] at this
   omega
  ·contradiction
theorem ths_ok : ∀ (syms : List Sym) (l : List (List Ins)), thsC syms l = 0 → ∀ t ∈ l, threadC syms t = 0
 | _, [], _, t, h => by cases h
 | syms, x :: l, h, t, ht => by
  simp only [thsC] at h
  split at h
  ·rcases List.mem_cons.1 ht with rfl | ht
   ·assumption
   ·exact ths_ok syms l h t ht
  ·contradiction
theorem thread_ok {syms : List Sym} {t : List Ins} (h : threadC syms t = 0) : countN t ≤ 4096 ∧ (insC syms [] t).1 = 0 ∧ lastB t = true ∧ wayB (allLabs t) t = true := by
 unfold threadC at h
 split at h
 ·cases h
 ·split at h
  ·split at h
   ·split at h
    ·rename_i h1 h2 h3 h4
     rw [insC_seen _ _ _ h2, List.nil_append] at h4
     exact ⟨by omega, h2, h3, h4⟩
    ·cases h
   ·cases h
  ·contradiction
def cellsS (s : Sym) : List Int := s.init ++ List.replicate (s.size - s.init.length).toNat 0
theorem startF_def (l : List Sym) : startF l = l.flatMap cellsS := rfl
theorem start_len : ∀ (l : List Sym), (∀ s ∈ l, 1 ≤ s.size ∧ s.size ≤ 64 ∧ (s.init.length : Int) ≤ s.size) → (startF l).length ≤ 64 * l.length
 | [], _ => by simp [startF]
 | x :: l, h => by
  have h1 := start_len l (fun s hs => h s (List.mem_cons_of_mem _ hs))
  have h2 := h x (List.mem_cons_self ..)
  simp only [startF_def] at h1 ⊢
  rw [List.flatMap_cons, lA, List.length_cons]
  have : (cellsS x).length ≤ 64 := by rw [cellsS, lA, List.length_replicate]; omega
  omega
section
attribute [local irreducible] TwS TwR thenT inBlockT retT checkC
theorem startP_spec (p : Prg) (hp : okP p) (hc : checkC p = 0) : Pure prog Tabs 67 [.agg (cPrg p)] (rwI (startF p.syms)) := by
 obtain ⟨c1, c2, c3, c4⟩ := check_syms hc
 have c := check_spec p hp
 rw [hc] at c
 refine Pure.at mixedOk F67 rfl fun C hP hG hp => goF ?_; simp only [F67, targEnv, Nat.zero_add, Nat.reduceAdd]
 repeat' (first | refine goR rfl ?_ | refine goS rfl ?_ | refine tret1 rfl ?_ | refine tretN rfl ?_ | refine gY rfl rfl ?_ | refine gN rfl rfl ?_ | refine qT rfl rfl ?_ | refine qF rfl rfl ?_ | refine cA rfl (by rw [hP, hG]; exact c) rfl ?_ | ((first | refine gS rfl (fun h => ?_) (fun h => ?_) | refine ts_cond rfl (fun h => ?_) (fun h => ?_)) <;> try simp only [bs0, beq_iff_eq] at h) | fail)
 refine loopS (fun m env σ => ∃ a b, p.syms = a ++ b ∧ m = b.length ∧ env = [(3, .s 0 1 0 (startF a).length true), (10, .lst 3 (p.syms.map cSym)), (11, tI p.syms.length), (12, tI a.length)] ∧ σ = ⟨[(0, .rows 1 ((startF a).map fun n => [tI n]) 2)], 1⟩) p.syms.length
  ((w_virt (d := 3) 1 2 rfl).trans ?_) ⟨[], p.syms, rfl, rfl, rfl, rfl⟩ ?_
 ·(refine w_ren [(0, 1)] rfl (by rw [hp]; intro j hj; cases hj) rfl ?_ ?_ <;> repeat' (first | exact .nil | exact .f _ rfl | exact .s _ _ _ _ _ _ rfl | exact .p _ _ _ rfl | exact .rows _ _ _ | exact .iter _ _ | exact RenL.nil _ | refine RenL.cons ?_ ?_ | refine .cells _ _ _ ?_ | refine .cons _ _ _ _ rfl ?_ ?_ | refine .cons _ _ _ _ _ rfl rfl ?_ ?_ | refine .rowsE ?_ | refine .sE rfl ?_ | exact .m _ _ rfl | refine .fE rfl ?_ | exact RenO.mB _ | exact RenO.mB [] | fail))
  rw [lM]
 rintro m env σ ⟨a, b, e, rfl, rfl, rfl⟩
 have hla : p.syms.length = a.length + b.length := by rw [e, lA]
 have hsl := start_len a (fun s hs => c3 s (by rw [e]; exact List.mem_append_left _ hs))
 cases b with
 | nil =>
  rw [List.length_nil] at hla
  rw [List.append_nil] at e
  repeat' (first | refine goR rfl ?_ | refine goS rfl ?_ | refine tret1 rfl ?_ | refine tretN rfl ?_ | refine gY rfl rfl ?_ | refine gN rfl rfl ?_ | refine qT rfl rfl ?_ | refine qF rfl rfl ?_ | refine qF rfl (dF (by omega)) ?_ | fail)
  rw [rwI, e]
  exact .s _ _ _ _ _ _ rfl (by rw [lM])
 | cons x b =>
  have hx : p.syms[a.length]? = some x := by rw [e]; exact ix
  simp only [List.length_cons] at hla
  obtain ⟨g1, g2, g3⟩ := c3 x (by rw [e]; simp)
  have hxi : (x.init.map fun n => [tI n]).length = x.init.length := lM ..
  repeat' (first | refine goR rfl ?_ | refine goS rfl ?_ | refine tret1 rfl ?_ | refine tretN rfl ?_ | refine gY rfl rfl ?_ | refine gN rfl rfl ?_ | refine qT rfl rfl ?_ | refine qF rfl rfl ?_ | refine qT rfl (dT (by omega)) ?_ | refine lT (tl_ixm rfl rfl rfl hx) ?_ | refine tr_append rfl rfl (by rw [lM]) (.inl rfl) (by omega) rfl ?_ | refine tr_appendZ rfl rfl (by simp only [lA, lM]) rfl (by rw [hxi, w64 (by omega)]; omega) rfl rfl (by rw [hxi, w64 (by omega)]; omega) rfl ?_ | fail)
  refine again (m' := b.length) (Nat.lt_succ_self _) ?_ ⟨a ++ [x], b, by rw [e]; simp, rfl, rfl, rfl⟩
  have hs : startF (a ++ [x]) = startF a ++ (x.init ++ List.replicate (x.size - x.init.length).toNat 0) := by rw [startF, List.flatMap_append]; simp [startF]
  (refine w_ren [(0, 3)] rfl (by rw [hp]; intro j hj; cases hj) rfl ?_ ?_ <;> repeat' (first | exact .nil | exact .f _ rfl | exact .s _ _ _ _ _ _ rfl | exact .p _ _ _ rfl | exact .rows _ _ _ | exact .iter _ _ | exact RenL.nil _ | refine RenL.cons ?_ ?_ | refine .cells _ _ _ ?_ | refine .cons _ _ _ _ rfl ?_ ?_ | refine .cons _ _ _ _ _ rfl rfl ?_ ?_ | refine .rowsE ?_ | refine .sE rfl ?_ | exact .m _ _ rfl | refine .fE rfl ?_ | exact RenO.mB _ | exact RenO.mB [] | fail))
  all_goals first | rfl | (rw [w64 (by omega), lA, List.length_singleton]; rfl) | (rw [lA]; rfl) | (rw [List.map_append]; rfl) | rw [lM] | rw [List.append_nil] | skip
  ·rw [hs, w64 (by omega), lA, lA, List.length_replicate]; omega
  ·rw [hs, w64 (by omega)]; simp
end
end Go.Proofs.YtnphhelbianjpaaGreatDoor
namespace Go.Proofs.YtnphhelbianjpaaGreatDoor
set_option maxRecDepth 20000
open Go Go.Proofs.YtnphhelbianjpaaGreatDoor.V Go.Proofs

theorem labsC_new : ∀ (c : List ByteArray) (seen : List ByteArray) (y : ByteArray) (d : List ByteArray), (labsC seen (c ++ y :: d)).1 = 0 → hasB y (seen ++ c) = false
 | [], seen, y, d, h => by
  simp only [List.nil_append, labsC] at h
  split at h
  ·split at h
   ·cases h
   ·rename_i h1; simpa using h1
  ·cases h
 | x :: c, seen, y, d, h => by
  simp only [List.cons_append, labsC] at h
  split at h
  ·split at h
   ·cases h
   ·have := labsC_new c _ y d h
    simpa using this
  ·cases h
theorem insC_at (syms : List Sym) : ∀ (a : List Ins) (seen : List ByteArray) (x : Ins) (b : List Ins), (insC syms seen (a ++ x :: b)).1 = 0 → (labsC (seen ++ allLabs a) x.labels).1 = 0
 | [], seen, x, b, h => by
  simp only [List.nil_append, insC] at h
  split at h
  ·simpa [allLabs] using ‹(labsC seen x.labels).1 = 0›
  ·contradiction
 | i :: a, seen, x, b, h => by
  simp only [List.cons_append, insC] at h
  split at h
  ·rename_i h1
   split at h
   ·have := insC_at syms a _ x b h
    rw [labsC_ok _ _ h1] at this
    simpa [allLabs] using this
   ·contradiction
  ·contradiction
theorem lkp_has {α : Type} (s : ByteArray) : ∀ (l : List (ByteArray × α)), (lkp s l).isSome = hasB s (l.map Prod.fst)
 | [] => rfl
 | e :: l => by
  simp only [lkp, List.map_cons, hasB]
  by_cases h : s = e.1
  ·rw [if_pos h, dT h]; rfl
  ·rw [if_neg h, dF h, Bool.false_or]; exact lkp_has s l
theorem labMapF_fst : ∀ (l : List Ins) (k : Int), (labMapF k l).map Prod.fst = allLabs l
 | [], _ => rfl
 | i :: l, k => by
  have ih := labMapF_fst l (k + 1)
  simp only [labMapF, List.map_append, List.map_map, ih]
  rw [show (Prod.fst ∘ fun s : ByteArray => (s, k)) = id from rfl, List.map_id]
  simp [allLabs]
theorem labMapF_app : ∀ (a b : List Ins) (k : Int), labMapF k (a ++ b) = labMapF k a ++ labMapF (k + a.length) b
 | [], b, k => by simp [labMapF]
 | i :: a, b, k => by
  simp only [List.cons_append, labMapF, labMapF_app a b (k + 1), List.append_assoc, List.length_cons]
  rw [show k + 1 + (a.length : Int) = k + ((a.length + 1 : Nat) : Int) by omega]
theorem basesF_app : ∀ (a : List Sym) (x : Sym) (k : Int), basesF k (a ++ [x]) = basesF k a ++ [k + (a.map fun s => s.size).sum]
 | [], x, k => by simp [basesF]
 | y :: a, x, k => by
  simp only [List.cons_append, basesF, basesF_app a x, List.map_cons, List.sum_cons]
  rw [show k + y.size + (a.map fun s => s.size).sum = k + (y.size + (a.map fun s => s.size).sum) by omega]
theorem basesF_len : ∀ (l : List Sym) (k : Int), (basesF k l).length = l.length
 | [], _ => rfl
 | x :: l, k => by simp [basesF, basesF_len l]
theorem sizes_le : ∀ (l : List Sym), (∀ s ∈ l, 1 ≤ s.size ∧ s.size ≤ 64 ∧ (s.init.length : Int) ≤ s.size) → 0 ≤ (l.map fun s => s.size).sum ∧ (l.map fun s => s.size).sum ≤ 64 * (l.length : Int)
 | [], _ => by simp
 | x :: l, h => by
  have h1 := sizes_le l (fun s hs => h s (List.mem_cons_of_mem _ hs))
  have h2 := h x (List.mem_cons_self ..)
  simp only [List.map_cons, List.sum_cons, List.length_cons]
  omega
section
attribute [local irreducible] TwS TwR thenT inBlockT retT checkC lineOf
theorem make_spec (p : Prg) (ho : okP p) (hc : checkC p = 0) : Pure prog Tabs 31 [.agg (cPrg p)] (.fp (cCore p) 0) := by
 obtain ⟨c1, c2, c3, c4⟩ := check_syms hc
 have c := check_spec p ho
 rw [hc] at c
 refine Pure.at mixedOk F31 rfl fun C hP hG hp => goF ?_; simp only [F31, targEnv, Nat.zero_add, Nat.reduceAdd]
 repeat' (first | refine goR rfl ?_ | refine goS rfl ?_ | refine tret1 rfl ?_ | refine tretN rfl ?_ | refine gY rfl rfl ?_ | refine gN rfl rfl ?_ | refine qT rfl rfl ?_ | refine qF rfl rfl ?_ | refine cA rfl (by rw [hP, hG]; exact c) rfl ?_ | refine cA rfl (by rw [hP, hG]; exact copy_spec p ho) rfl ?_ | ((first | refine gS rfl (fun h => ?_) (fun h => ?_) | refine ts_cond rfl (fun h => ?_) (fun h => ?_)) <;> try simp only [bs0, beq_iff_eq] at h) | fail)
 refine loopS (fun m env σ => ∃ a b, p.syms = a ++ b ∧ m = b.length ∧ env = [(3, .p 0 0), (4, tI (a.map fun s => s.size).sum), (28, .lst 3 (p.syms.map cSym)), (29, tI p.syms.length), (30, tI a.length)] ∧
  σ = ⟨[(0, .cells [.lst 3 (p.syms.map cSym), .lst 1 (p.threads.map cTh), .s 1 1 0 a.length true, .v (.slice none 0 0), .v (.slice none 0 0), .v (.slice none 0 0), .v (.slice none 0 0), tI 0] 121), (1, .rows 1 ((basesF 0 a).map fun n => [tI n]) 3)], 2⟩) p.syms.length
  ((w_virtC (j := 1) (i := 2) 1 3 rfl rfl).trans ?_) ⟨[], p.syms, rfl, rfl, rfl, rfl⟩ ?_
 ·(refine w_ren [(0, 1), (1, 2)] rfl (by rw [hp]; intro j hj; cases hj) rfl ?_ ?_ <;> repeat' (first | exact .nil | exact .f _ rfl | exact .s _ _ _ _ _ _ rfl | exact .p _ _ _ rfl | exact .rows _ _ _ | exact .iter _ _ | exact RenL.nil _ | refine RenL.cons ?_ ?_ | refine .cells _ _ _ ?_ | refine .cons _ _ _ _ rfl ?_ ?_ | refine .cons _ _ _ _ _ rfl rfl ?_ ?_ | refine .rowsE ?_ | refine .sE rfl ?_ | exact .m _ _ rfl | refine .fE rfl ?_ | exact RenO.mB _ | exact RenO.mB [] | fail))
  all_goals rw [lM]
 rintro m env σ ⟨a, b, e, rfl, rfl, rfl⟩
 have hla : p.syms.length = a.length + b.length := by rw [e, lA]
 have hsz := sizes_le a (fun s hs => c3 s (by rw [e]; exact List.mem_append_left _ hs))
 cases b with
 | cons x b =>
  have hx : p.syms[a.length]? = some x := by rw [e]; exact ix
  simp only [List.length_cons] at hla
  obtain ⟨g1, g2, g3⟩ := c3 x (by rw [e]; simp)
  have hbl := basesF_len a 0
  repeat' (first | refine goR rfl ?_ | refine goS rfl ?_ | refine tret1 rfl ?_ | refine tretN rfl ?_ | refine gY rfl rfl ?_ | refine gN rfl rfl ?_ | refine qT rfl rfl ?_ | refine qF rfl rfl ?_ | refine qT rfl (dT (by omega)) ?_ | refine lT (tl_ixm rfl rfl rfl hx) ?_ | refine tr_append rfl rfl (by rw [lM, basesF_len]) (.inr (.inr ⟨_, _, _, _, rfl, rfl, rfl⟩)) (by simp only [List.length_cons, List.length_nil]; omega) rfl ?_ | fail)
  refine again (m' := b.length) (Nat.lt_succ_self _) ?_ ⟨a ++ [x], b, by rw [e]; simp, rfl, rfl, rfl⟩
  (refine w_ren [(0, 0), (1, 4)] rfl (by rw [hp]; intro j hj; cases hj) rfl ?_ ?_ <;> repeat' (first | exact .nil | exact .f _ rfl | exact .s _ _ _ _ _ _ rfl | exact .p _ _ _ rfl | exact .rows _ _ _ | exact .iter _ _ | exact RenL.nil _ | refine RenL.cons ?_ ?_ | refine .cells _ _ _ ?_ | refine .cons _ _ _ _ rfl ?_ ?_ | refine .cons _ _ _ _ _ rfl rfl ?_ ?_ | refine .rowsE ?_ | refine .sE rfl ?_ | exact .m _ _ rfl | refine .fE rfl ?_ | exact RenO.mB _ | exact RenO.mB [] | fail))
  all_goals first | rfl | (rw [w64 (by omega), lA, List.length_singleton]; rfl) | (rw [lA]; rfl) | (rw [List.map_append]; rfl) | rw [lM] | rw [List.append_nil] | skip
  ·rw [List.map_append, List.sum_append, w64 (by omega)]; simp
  ·rw [basesF_app, Int.zero_add, List.map_append]; rfl
 | nil =>
  rw [List.length_nil] at hla
  rw [List.append_nil] at e
  repeat' (first | refine goR rfl ?_ | refine goS rfl ?_ | refine tret1 rfl ?_ | refine tretN rfl ?_ | refine gY rfl rfl ?_ | refine gN rfl rfl ?_ | refine qT rfl rfl ?_ | refine qF rfl rfl ?_ | refine qF rfl (dF (by omega)) ?_ | fail)
  subst e
  refine loopS (fun m env σ => ∃ a b, p.threads = a ++ b ∧ m = b.length ∧ env = [(3, .p 0 0), (53, .lst 1 (p.threads.map cTh)), (54, tI p.threads.length), (55, tI a.length)] ∧
   σ = ⟨[(0, .cells [.lst 3 (p.syms.map cSym), .lst 1 (p.threads.map cTh), rwI (basesF 0 p.syms), .s 1 1 0 a.length true, .v (.slice none 0 0), .v (.slice none 0 0), .v (.slice none 0 0), tI 0] 121), (1, .rows 1 ((a.map codeOf).map cCode) 123)], 2⟩) p.threads.length
   ((w_freezeC (j := 0) (i := 2) (k := 1) rfl rfl rfl (by decide) (.s _ _ (by rw [lM, basesF_len]))).trans ((w_virtC (j := 0) (i := 3) 1 123 rfl rfl).trans ?_)) ⟨[], p.threads, rfl, rfl, rfl, rfl⟩ ?_
  ·(refine w_ren [(0, 0), (1, 2)] rfl (by rw [hp]; intro j hj; cases hj) rfl ?_ ?_ <;> repeat' (first | exact .nil | exact .f _ rfl | exact .s _ _ _ _ _ _ rfl | exact .p _ _ _ rfl | exact .rows _ _ _ | exact .iter _ _ | exact RenL.nil _ | refine RenL.cons ?_ ?_ | refine .cells _ _ _ ?_ | refine .cons _ _ _ _ rfl ?_ ?_ | refine .cons _ _ _ _ _ rfl rfl ?_ ?_ | refine .rowsE ?_ | refine .sE rfl ?_ | exact .m _ _ rfl | refine .fE rfl ?_ | exact RenO.mB _ | exact RenO.mB [] | fail))
   all_goals rw [lM]
  rintro m env σ ⟨a, b, e2, rfl, rfl, rfl⟩
  have hla2 : p.threads.length = a.length + b.length := by rw [e2, lA]
  cases b with
  | nil =>
   rw [List.length_nil] at hla2
   rw [List.append_nil] at e2
   repeat' (first | refine goR rfl ?_ | refine goS rfl ?_ | refine tret1 rfl ?_ | refine tretN rfl ?_ | refine gY rfl rfl ?_ | refine gN rfl rfl ?_ | refine qT rfl rfl ?_ | refine qF rfl rfl ?_ | refine qF rfl (dF (by omega)) ?_ | refine tr_make rfl rfl rfl rfl (by rw [lM]; omega) ?_ | refine cA rfl (by rw [hP, hG]; exact startP_spec p ho hc) rfl ?_ | fail)
   rw [← e2]
   have hrep : List.replicate p.threads.length (cThr zThr) = (List.replicate p.threads.length zThr).map cThr := by rw [List.map_replicate]
   refine .pL rfl (.cons (.f _ rfl) (.cons (.f _ rfl) (.cons (.f _ rfl) (.cons (.s 1 1 _ true _ 123 rfl ?_) (.cons (.f _ rfl) (.cons ?_ (.cons (.nil _) (.cons (.f _ rfl) .nil))))))))
   ·rw [lM, lM]
   ·rw [← hrep]
    refine .s _ 16 _ true _ 58 ?_ ?_
    ·rw [lM, Int.toNat_natCast]; rfl
    ·rw [lM, Int.toNat_natCast, List.length_replicate]
  | cons th b =>
   have hx : p.threads[a.length]? = some th := by rw [e2]; exact ix
   have hth : th ∈ p.threads := by rw [e2]; simp
   simp only [List.length_cons] at hla2
   obtain ⟨t1, t2, t3, t4⟩ := thread_ok (ths_ok _ _ c4 th hth)
   have hto := ho.2.2.2 th hth
   have htl := hto.1.1
   repeat' (first | refine goR rfl ?_ | refine goS rfl ?_ | refine tret1 rfl ?_ | refine tretN rfl ?_ | refine gY rfl rfl ?_ | refine gN rfl rfl ?_ | refine qT rfl rfl ?_ | refine qF rfl rfl ?_ | refine qT rfl (dT (by omega)) ?_ | refine lT (tl_ixm rfl rfl rfl hx) ?_ | fail)
   refine loopS (fun m env σ => ∃ c d, th = c ++ d ∧ m = d.length ∧ env = [(3, .p 0 0), (8, .p 2 0), (9, .m 3), (53, .lst 1 (p.threads.map cTh)), (54, tI p.threads.length), (55, tI a.length), (61, .lst 13 (th.map cIns)), (62, tI th.length), (63, tI c.length)] ∧
    σ = ⟨[(0, .cells [.lst 3 (p.syms.map cSym), .lst 1 (p.threads.map cTh), rwI (basesF 0 p.syms), .s 1 1 0 a.length true, .v (.slice none 0 0), .v (.slice none 0 0), .v (.slice none 0 0), tI 0] 121), (1, .rows 1 ((a.map codeOf).map cCode) 123),
     (2, .cells (cTh th) 69), (3, .map (mapG tI (labMapF 0 c)))], 4⟩) th.length ?_ ⟨[], th, rfl, rfl, rfl, rfl⟩ ?_
   ·(refine w_ren [(0, 0), (1, 1), (2, 2), (3, 3)] rfl (by rw [hp]; intro j hj; cases hj) rfl ?_ ?_ <;> repeat' (first | exact .nil | exact .f _ rfl | exact .s _ _ _ _ _ _ rfl | exact .p _ _ _ rfl | exact .rows _ _ _ | exact .iter _ _ | exact RenL.nil _ | refine RenL.cons ?_ ?_ | refine .cells _ _ _ ?_ | refine .cons _ _ _ _ rfl ?_ ?_ | refine .cons _ _ _ _ _ rfl rfl ?_ ?_ | refine .rowsE ?_ | refine .sE rfl ?_ | exact .m _ _ rfl | refine .fE rfl ?_ | exact RenO.mB _ | exact RenO.mB [] | fail))
    rw [lM]
   rintro m env σ ⟨c, d, e3, rfl, rfl, rfl⟩
   have hlc : th.length = c.length + d.length := by rw [e3, lA]
   cases d with
   | cons i d =>
    have hy : th[c.length]? = some i := by rw [e3]; exact ix
    have him : i ∈ th := by rw [e3]; simp
    simp only [List.length_cons] at hlc
    have hil := (hto.2 i him).2.1
    repeat' (first | refine goR rfl ?_ | refine goS rfl ?_ | refine tret1 rfl ?_ | refine tretN rfl ?_ | refine gY rfl rfl ?_ | refine gN rfl rfl ?_ | refine qT rfl rfl ?_ | refine qF rfl rfl ?_ | refine qT rfl (dT (by omega)) ?_ | refine lT (tl_ixm rfl rfl rfl hy) ?_ | fail)
    refine loopS (fun m env σ => ∃ f g, i.labels = f ++ g ∧ m = g.length ∧ env = [(3, .p 0 0), (8, .p 2 0), (9, .m 3), (10, tI c.length), (53, .lst 1 (p.threads.map cTh)), (54, tI p.threads.length), (55, tI a.length), (61, .lst 13 (th.map cIns)), (62, tI th.length), (63, tI c.length),
      (69, .lst 1 (i.labels.map fun s => [tS s])), (70, tI i.labels.length), (71, tI f.length)] ∧
     σ = ⟨[(0, .cells [.lst 3 (p.syms.map cSym), .lst 1 (p.threads.map cTh), rwI (basesF 0 p.syms), .s 1 1 0 a.length true, .v (.slice none 0 0), .v (.slice none 0 0), .v (.slice none 0 0), tI 0] 121), (1, .rows 1 ((a.map codeOf).map cCode) 123),
      (2, .cells (cTh th) 69), (3, .map (mapG tI (labMapF 0 c ++ f.map fun s => (s, (c.length : Int)))))], 4⟩) i.labels.length ?_ ⟨[], i.labels, rfl, rfl, rfl, rfl⟩ ?_
    ·(refine w_ren [(0, 0), (1, 1), (2, 2), (3, 3)] rfl (by rw [hp]; intro j hj; cases hj) rfl ?_ ?_ <;> repeat' (first | exact .nil | exact .f _ rfl | exact .s _ _ _ _ _ _ rfl | exact .p _ _ _ rfl | exact .rows _ _ _ | exact .iter _ _ | exact RenL.nil _ | refine RenL.cons ?_ ?_ | refine .cells _ _ _ ?_ | refine .cons _ _ _ _ rfl ?_ ?_ | refine .cons _ _ _ _ _ rfl rfl ?_ ?_ | refine .rowsE ?_ | refine .sE rfl ?_ | exact .m _ _ rfl | refine .fE rfl ?_ | exact RenO.mB _ | exact RenO.mB [] | fail))
     ·rw [lM]
     ·exact .mapGi (fun _ => rfl) (by simp)
    rintro m env σ ⟨f, g, e4, rfl, rfl, rfl⟩
    have hlf : i.labels.length = f.length + g.length := by rw [e4, lA]
    cases g with
    | nil =>
     rw [List.length_nil] at hlf
     rw [List.append_nil] at e4
     repeat' (first | refine goR rfl ?_ | refine goS rfl ?_ | refine tret1 rfl ?_ | refine tretN rfl ?_ | refine gY rfl rfl ?_ | refine gN rfl rfl ?_ | refine qT rfl rfl ?_ | refine qF rfl rfl ?_ | refine qF rfl (dF (by omega)) ?_ | fail)
     refine again (m' := d.length) (Nat.lt_succ_self _) ?_ ⟨c ++ [i], d, by rw [e3]; simp, rfl, rfl, rfl⟩
     (refine w_ren [(0, 0), (1, 1), (2, 2), (3, 3)] rfl (by rw [hp]; intro j hj; cases hj) rfl ?_ ?_ <;> repeat' (first | exact .nil | exact .f _ rfl | exact .s _ _ _ _ _ _ rfl | exact .p _ _ _ rfl | exact .rows _ _ _ | exact .iter _ _ | exact RenL.nil _ | refine RenL.cons ?_ ?_ | refine .cells _ _ _ ?_ | refine .cons _ _ _ _ rfl ?_ ?_ | refine .cons _ _ _ _ _ rfl rfl ?_ ?_ | refine .rowsE ?_ | refine .sE rfl ?_ | exact .m _ _ rfl | refine .fE rfl ?_ | exact RenO.mB _ | exact RenO.mB [] | fail))
     ·rw [w64 (by omega), lA, List.length_singleton]; rfl
     ·exact .mapGi (fun _ => rfl) (by rw [labMapF_app, Int.zero_add]; simp [labMapF, e4])
    | cons y g =>
     have hz : i.labels[f.length]? = some y := by rw [e4]; exact ix
     simp only [List.length_cons] at hlf
     have hn : lkp y (labMapF 0 c ++ f.map fun s => (s, (c.length : Int))) = none := by
      have h1 := insC_at p.syms c [] i d (by rw [← e3]; exact t2)
      rw [e4, List.nil_append] at h1
      have h2 := labsC_new f (allLabs c) y g h1
      have h3 := lkp_has y (labMapF 0 c ++ f.map fun s => (s, (c.length : Int)))
      rw [List.map_append, labMapF_fst, List.map_map, show (Prod.fst ∘ fun s : ByteArray => (s, (c.length : Int))) = id from rfl, List.map_id, h2] at h3
      cases hl : lkp y (labMapF 0 c ++ f.map fun s => (s, (c.length : Int))) with
      | none => rfl
      | some v => rw [hl] at h3; cases h3
     repeat' (first | refine goR rfl ?_ | refine goS rfl ?_ | refine tret1 rfl ?_ | refine tretN rfl ?_ | refine gY rfl rfl ?_ | refine gN rfl rfl ?_ | refine qT rfl rfl ?_ | refine qF rfl rfl ?_ | refine qT rfl (dT (by omega)) ?_ | refine lT (tl_ixm rfl rfl rfl hz) ?_ | refine tr_mapadd (g := tI) (u := (c.length : Int)) rfl rfl rfl rfl hn rfl ?_ | fail)
     refine again (m' := g.length) (Nat.lt_succ_self _) ?_ ⟨f ++ [y], g, by rw [e4]; simp, rfl, rfl, rfl⟩
     (refine w_ren [(0, 0), (1, 1), (2, 2), (3, 3)] rfl (by rw [hp]; intro j hj; cases hj) rfl ?_ ?_ <;> repeat' (first | exact .nil | exact .f _ rfl | exact .s _ _ _ _ _ _ rfl | exact .p _ _ _ rfl | exact .rows _ _ _ | exact .iter _ _ | exact RenL.nil _ | refine RenL.cons ?_ ?_ | refine .cells _ _ _ ?_ | refine .cons _ _ _ _ rfl ?_ ?_ | refine .cons _ _ _ _ _ rfl rfl ?_ ?_ | refine .rowsE ?_ | refine .sE rfl ?_ | exact .m _ _ rfl | refine .fE rfl ?_ | exact RenO.mB _ | exact RenO.mB [] | fail))
     ·rw [w64 (by omega), lA, List.length_singleton]; rfl
     ·exact .mapGi (fun _ => rfl) (by simp)
   | nil =>
    rw [List.length_nil] at hlc
    rw [List.append_nil] at e3
    subst e3
    repeat' (first | refine goR rfl ?_ | refine goS rfl ?_ | refine tret1 rfl ?_ | refine tretN rfl ?_ | refine gY rfl rfl ?_ | refine gN rfl rfl ?_ | refine qT rfl rfl ?_ | refine qF rfl rfl ?_ | refine qF rfl (dF (by omega)) ?_ | fail)
    refine loopS (fun m env σ => ∃ c d, th = c ++ d ∧ m = d.length ∧ env = [(3, .p 0 0), (9, .fm (mapG tI (labMap th))), (14, .s 2 22 0 c.length true), (53, .lst 1 (p.threads.map cTh)), (54, tI p.threads.length), (55, tI a.length), (81, .lst 13 (th.map cIns)), (82, tI th.length), (83, tI c.length)] ∧
     σ = ⟨[(0, .cells [.lst 3 (p.syms.map cSym), .lst 1 (p.threads.map cTh), rwI (basesF 0 p.syms), .s 1 1 0 a.length true, .v (.slice none 0 0), .v (.slice none 0 0), .v (.slice none 0 0), tI 0] 121), (1, .rows 1 ((a.map codeOf).map cCode) 123),
      (2, .rows 22 ((c.map fun i => lineOf i ((lkp i.to (labMap th)).getD 0)).map cLine) 125)], 3⟩) th.length
     ((w_freezeM (d := 9) (k := 3) rfl rfl (mapG_froz (fun _ => rfl) _)).trans ((w_virt (d := 14) 22 125 rfl).trans ?_)) ⟨[], th, rfl, rfl, rfl, rfl⟩ ?_
    ·(refine w_ren [(0, 0), (1, 1), (2, 4)] rfl (by rw [hp]; intro j hj; cases hj) rfl ?_ ?_ <;> repeat' (first | exact .nil | exact .f _ rfl | exact .s _ _ _ _ _ _ rfl | exact .p _ _ _ rfl | exact .rows _ _ _ | exact .iter _ _ | exact RenL.nil _ | refine RenL.cons ?_ ?_ | refine .cells _ _ _ ?_ | refine .cons _ _ _ _ rfl ?_ ?_ | refine .cons _ _ _ _ _ rfl rfl ?_ ?_ | refine .rowsE ?_ | refine .sE rfl ?_ | exact .m _ _ rfl | refine .fE rfl ?_ | exact RenO.mB _ | exact RenO.mB [] | fail))
     all_goals rw [lM]
    rintro m env σ ⟨c, d, e3, rfl, rfl, rfl⟩
    have hlc2 : th.length = c.length + d.length := by rw [e3, lA]
    cases d with
    | nil =>
     rw [List.length_nil] at hlc2
     rw [List.append_nil] at e3
     subst e3
     refine ts_weak (w_freeze (d := 14) (k := 2) rfl rfl (.s _ _ (by rw [lM, lM]))) ?_
     repeat' (first | refine goR rfl ?_ | refine goS rfl ?_ | refine tret1 rfl ?_ | refine tretN rfl ?_ | refine gY rfl rfl ?_ | refine gN rfl rfl ?_ | refine qT rfl rfl ?_ | refine qF rfl rfl ?_ | refine qF rfl (dF (by omega)) ?_ | refine tr_append rfl rfl (by rw [lM, lM]) (.inr (.inr ⟨_, _, _, _, rfl, rfl, rfl⟩)) (by simp only [List.length_cons, List.length_nil]; omega) rfl ?_ | fail)
     refine again (m' := b.length) (Nat.lt_succ_self _) ?_ ⟨a ++ [th], b, by rw [e2]; simp, rfl, rfl, rfl⟩
     (refine w_ren [(0, 0), (1, 4)] rfl (by rw [hp]; intro j hj; cases hj) rfl ?_ ?_ <;> repeat' (first | exact .nil | exact .f _ rfl | exact .s _ _ _ _ _ _ rfl | exact .p _ _ _ rfl | exact .rows _ _ _ | exact .iter _ _ | exact RenL.nil _ | refine RenL.cons ?_ ?_ | refine .cells _ _ _ ?_ | refine .cons _ _ _ _ rfl ?_ ?_ | refine .cons _ _ _ _ _ rfl rfl ?_ ?_ | refine .rowsE ?_ | refine .sE rfl ?_ | exact .m _ _ rfl | refine .fE rfl ?_ | exact RenO.mB _ | exact RenO.mB [] | fail))
     all_goals first | rfl | (rw [w64 (by omega), lA, List.length_singleton]; rfl) | (rw [lA]; rfl) | (rw [List.map_append]; rfl) | rw [lM] | rw [List.append_nil] | skip
     all_goals (rw [List.map_append, List.map_append]; rfl)
    | cons i d =>
     have hy : th[c.length]? = some i := by rw [e3]; exact ix
     have him : i ∈ th := by rw [e3]; simp
     simp only [List.length_cons] at hlc2
     have his := (hto.2 i him).1
     repeat' (first | refine goR rfl ?_ | refine goS rfl ?_ | refine tret1 rfl ?_ | refine tretN rfl ?_ | refine gY rfl rfl ?_ | refine gN rfl rfl ?_ | refine qT rfl rfl ?_ | refine qF rfl rfl ?_ | refine qT rfl (dT (by omega)) ?_ | refine lT (tl_ixm rfl rfl rfl hy) ?_ | refine cA rfl (by rw [hP, hG]; exact known_spec i (labMap th) (by omega)) rfl ?_ | refine tr_append rfl rfl (by rw [lM, lM]) (.inr (.inr ⟨_, _, _, _, rfl, rfl, rfl⟩)) (by simp only [List.length_cons, List.length_nil]; omega) rfl ?_ | fail)
     refine again (m' := d.length) (Nat.lt_succ_self _) ?_ ⟨c ++ [i], d, by rw [e3]; simp, rfl, rfl, rfl⟩
     (refine w_ren [(0, 0), (1, 1), (2, 5)] rfl (by rw [hp]; intro j hj; cases hj) rfl ?_ ?_ <;> repeat' (first | exact .nil | exact .f _ rfl | exact .s _ _ _ _ _ _ rfl | exact .p _ _ _ rfl | exact .rows _ _ _ | exact .iter _ _ | exact RenL.nil _ | refine RenL.cons ?_ ?_ | refine .cells _ _ _ ?_ | refine .cons _ _ _ _ rfl ?_ ?_ | refine .cons _ _ _ _ _ rfl rfl ?_ ?_ | refine .rowsE ?_ | refine .sE rfl ?_ | exact .m _ _ rfl | refine .fE rfl ?_ | exact RenO.mB _ | exact RenO.mB [] | fail))
     all_goals first | rfl | (rw [w64 (by omega), lA, List.length_singleton]; rfl) | (rw [lA]; rfl) | (rw [List.map_append]; rfl) | rw [lM] | rw [List.append_nil] | skip
     all_goals (rw [List.map_append, List.map_append]; rfl)
end
end Go.Proofs.YtnphhelbianjpaaGreatDoor
namespace Go.Proofs.YtnphhelbianjpaaGreatDoor
set_option maxRecDepth 20000
open Go Go.Proofs.YtnphhelbianjpaaGreatDoor.V Go.Proofs

structure thrR (x : Thr) : Prop where
 h0 : inR x.r0
 h1 : inR x.r1
 h2 : inR x.r2
 h3 : inR x.r3
 h4 : inR x.r4
 h5 : inR x.r5
 h6 : inR x.r6
 h7 : inR x.r7
theorem getR_in {x : Thr} (h : thrR x) (j : Int) : inR (getR x j) := by
 unfold getR g8
 repeat' split
 all_goals first | exact h.h0 | exact h.h1 | exact h.h2 | exact h.h3 | exact h.h4 | exact h.h5 | exact h.h6 | exact h.h7
def baseN (l : List Sym) (k : Nat) : Int := ((l.take k).map fun s => s.size).sum
def offW (o : Opd) (x : Thr) : Int := if o.kind = 4 then getR x o.reg else o.n
def addrW (l : List Sym) (o : Opd) (x : Thr) : Option Int := match l[o.sym.toNat]? with
 | none => none
 | some s => if 0 ≤ offW o x ∧ offW o x < s.size then some (baseN l o.sym.toNat + offW o x) else none
theorem bases_get : ∀ (l : List Sym) (k : Nat) (b : Int), k < l.length → (basesF b l)[k]? = some (b + baseN l k)
 | [], k, b, h => by simp at h
 | x :: l, 0, b, _ => by simp [basesF, baseN]
 | x :: l, k + 1, b, h => by
  rw [basesF, List.getElem?_cons_succ, bases_get l k _ (by simpa using h)]
  simp only [baseN, List.take_succ_cons, List.map_cons, List.sum_cons]
  congr 1; omega
structure MemOk (l : List Sym) (o : Opd) (s : Sym) : Prop where
 sym : 0 ≤ o.sym
 get : l[o.sym.toNat]? = some s
 reg : o.kind = 4 → 0 ≤ o.reg ∧ o.reg ≤ 7
 kind : o.kind = 3 ∨ o.kind = 4
 cell : o.kind = 3 → 0 ≤ o.n ∧ o.n < s.size
theorem mem_ok {l : List Sym} {o : Opd} (h1 : okOpd o = true) (h2 : memK o = true) (h3 : placeC l o = 0) : ∃ s, MemOk l o s := by
 unfold placeC at h3
 rw [if_pos (show memQ o = true from h2)] at h3
 split at h3
 ·cases h3
 ·cases hg : l[o.sym.toNat]? with
  | none => rw [hg] at h3; cases h3
  | some s =>
   rw [hg] at h3
   simp only at h3
   unfold okOpd at h1
   unfold memK at h2
   simp only [decide_eq_true_eq] at h1 h2
   refine ⟨s, by omega, hg, by omega, h2, fun hk => ?_⟩
   split at h3
   ·cases h3
   ·omega
theorem base_le {l : List Sym} (h : ∀ s ∈ l, 1 ≤ s.size ∧ s.size ≤ 64 ∧ (s.init.length : Int) ≤ s.size) (k : Nat) : 0 ≤ baseN l k ∧ baseN l k ≤ 64 * (l.length : Int) := by
 have := sizes_le (l.take k) (fun s hs => h s (List.mem_of_mem_take hs))
 have hl : (l.take k).length ≤ l.length := by rw [List.length_take]; omega
 unfold baseN
 omega
section
attribute [local irreducible] TwS TwR thenT inBlockT retT IntKind.wrap
variable {G : World → Prop}
theorem addr_spec (p : Prg) (hc : checkC p = 0) (o : Opd) (x : Thr) (hx : thrR x) (s : Sym) (ho : MemOk p.syms o s) :
  Pure prog G 74 [.fp (cCore p) 0, .agg (cOpd o), .agg (cRegs x)] (.tup [tI ((addrW p.syms o x).getD 0), tB (addrW p.syms o x).isSome]) := by
 obtain ⟨c1, c2, c3, c4⟩ := check_syms hc
 have hsz := c3 s (List.mem_of_getElem? ho.get)
 have hlt := (List.getElem?_eq_some_iff.1 ho.get).1
 have hb := bases_get p.syms o.sym.toNat 0 hlt
 rw [Int.zero_add] at hb
 have hbl := base_le c3 o.sym.toNat
 have hsym := ho.sym
 have hu : ∀ n, inR n → (IntKind.u64.wrap s.size ≤ IntKind.u64.wrap n ↔ ¬ (0 ≤ n ∧ n < s.size)) := by
  intro n hn
  unfold inR at hn
  have e1 := u64_def n
  have e2 := u64_def s.size
  unfold u64 at e1 e2
  rw [e1, e2]
  omega
 have hadd : addrW p.syms o x = if 0 ≤ offW o x ∧ offW o x < s.size then some (baseN p.syms o.sym.toNat + offW o x) else none := by rw [addrW, ho.get]
 rw [hadd]
 refine Pure.at mixedOk F74 rfl fun C hP hG hp => goF ?_; simp only [F74, targEnv, Nat.zero_add, Nat.reduceAdd]
 by_cases hk : o.kind = 4
 ·have hoff : offW o x = getR x o.reg := if_pos hk
  have hr := ho.reg hk
  rw [hoff]
  repeat' (first | refine goR rfl ?_ | refine goS rfl ?_ | refine tret1 rfl ?_ | refine tretN rfl ?_ | refine gY rfl rfl ?_ | refine gN rfl rfl ?_ | refine qT rfl rfl ?_ | refine qF rfl rfl ?_ | refine lT (tl_iaAp rfl rfl (by omega)) ?_ | refine lT (tl_ldR rfl rfl (at8 hr (by omega))) ?_ | refine lT (tl_conv (by rw [hP]; exact ut_i64) (by rw [hP]; exact ut_u64) rfl) ?_ | refine lT (tl_conv (by rw [hP]; exact ut_int) (by rw [hP]; exact ut_u64) rfl) ?_ | refine lT (tl_ixm rfl rfl (by omega) ho.get) ?_ | refine lT (tl_ixm rfl rfl (by omega) hb) ?_ | ((first | refine gS rfl (fun h => ?_) (fun h => ?_) | refine ts_cond rfl (fun h => ?_) (fun h => ?_)) <;> (try simp only [bs0, beq_iff_eq] at h) <;> try (exfalso; omega; done)) | fail)
  ·rw [if_neg ((hu _ (getR_in hx o.reg)).1 h)]; exact .frT rfl
  ·have hh := Decidable.not_not.1 (fun hn => h ((hu _ (getR_in hx o.reg)).2 hn))
   have hg : g8 o.reg x.r0 x.r1 x.r2 x.r3 x.r4 x.r5 x.r6 x.r7 = getR x o.reg := rfl
   rw [if_pos hh, hg, w64 (by omega)]; exact .frT rfl
 ·have hoff : offW o x = o.n := if_neg hk
  have hn := ho.cell (ho.kind.resolve_right hk)
  rw [hoff]
  repeat' (first | refine goR rfl ?_ | refine goS rfl ?_ | refine tret1 rfl ?_ | refine tretN rfl ?_ | refine gY rfl rfl ?_ | refine gN rfl rfl ?_ | refine qT rfl rfl ?_ | refine qF rfl rfl ?_ | refine lT (tl_conv (by rw [hP]; exact ut_i64) (by rw [hP]; exact ut_u64) rfl) ?_ | refine lT (tl_conv (by rw [hP]; exact ut_int) (by rw [hP]; exact ut_u64) rfl) ?_ | refine lT (tl_ixm rfl rfl (by omega) ho.get) ?_ | refine lT (tl_ixm rfl rfl (by omega) hb) ?_ | ((first | refine gS rfl (fun h => ?_) (fun h => ?_) | refine ts_cond rfl (fun h => ?_) (fun h => ?_)) <;> (try simp only [bs0, beq_iff_eq] at h) <;> try (exfalso; omega; done)) | fail)
  ·exact absurd hn ((hu _ (by unfold inR; omega)).1 h)
  ·rw [if_pos hn, w64 (by omega)]; exact .frT rfl
end
end Go.Proofs.YtnphhelbianjpaaGreatDoor
namespace Go.Proofs.YtnphhelbianjpaaGreatDoor
set_option maxRecDepth 20000
open Go Go.Proofs.YtnphhelbianjpaaGreatDoor.V Go.Proofs

theorem baseN_succ (l : List Sym) (k : Nat) (s : Sym) (h : l[k]? = some s) : baseN l (k + 1) = baseN l k + s.size := by
 unfold baseN
 rw [List.take_add_one, h, List.map_append, List.sum_append]
 simp
structure InsOk (p : Prg) (i : Ins) : Prop where
 right : insRight i = 0
 pa : placeC p.syms i.a = 0
 pb : placeC p.syms i.b = 0
 to : i.to.size ≤ 1000000000
theorem cur_ok {p : Prg} (ho : okP p) (hc : checkC p = 0) {t : Int} {x : Thr} {i : Ins} (h : curI p t x = some i) :
  ∃ l, getT p t = some l ∧ l ∈ p.threads ∧ i ∈ l ∧ x.st = 0 ∧ 0 ≤ x.pc ∧ l[x.pc.toNat]? = some i ∧ InsOk p i := by
 unfold curI at h
 split at h
 ·rename_i h1
  cases hg : getT p t with
  | none => rw [hg] at h; cases h
  | some l =>
   rw [hg] at h
   have hl : l[x.pc.toNat]? = some i := h
   have hm : l ∈ p.threads := by
    unfold getT at hg
    split at hg
    ·exact List.mem_of_getElem? hg
    ·cases hg
   have hi := List.mem_of_getElem? hl
   have hs := step_right (insC_ok p.syms l [] (thread_ok (ths_ok _ _ (check_syms hc).2.2.2 l hm)).2.1 i hi)
   exact ⟨l, rfl, hm, hi, h1.1, h1.2, hl, hs.1, hs.2.1, hs.2.2, ((ho.2.2.2 l hm).2 i hi).1⟩
 ·cases h
def atW (p : Prg) (t : Int) (x : Thr) : Ins × Bool := match curI p t x with
 | some i => (i, phB i x)
 | none => (noIns, false)
section
attribute [local irreducible] TwS TwR thenT inBlockT retT IntKind.wrap baseN partsI
variable {G : World → Prop}
theorem base_spec (p : Prg) (hc : checkC p = 0) (k : Nat) (hk : k ≤ p.syms.length) : Pure prog G 117 [.agg (cPrg p), tI k] (tI (baseN p.syms k)) := by
 obtain ⟨c1, c2, c3, c4⟩ := check_syms hc
 refine Pure.at mixedOk F117 rfl fun C hP hG hp => goF ?_; simp only [F117, targEnv, Nat.zero_add, Nat.reduceAdd]
 repeat' (first | refine goR rfl ?_ | refine goS rfl ?_ | refine tret1 rfl ?_ | refine tretN rfl ?_ | refine gY rfl rfl ?_ | refine gN rfl rfl ?_ | refine qT rfl rfl ?_ | refine qF rfl rfl ?_ | fail)
 refine loopS (fun m env σ => ∃ i : Nat, i ≤ k ∧ m = k - i ∧ env = [(1, tI k), (2, .p 0 0), (5, tI (baseN p.syms i)), (6, tI i)] ∧ σ = ⟨[(0, .cells (cPrg p) 28)], 1⟩) k ?_ ⟨0, by omega, rfl, rfl, rfl⟩ ?_
 ·(refine w_ren [(0, 0)] rfl (by rw [hp]; intro j hj; cases hj) rfl ?_ ?_ <;> repeat' (first | exact .nil | exact .f _ rfl | exact .s _ _ _ _ _ _ rfl | exact .p _ _ _ rfl | exact .rows _ _ _ | exact .iter _ _ | exact RenL.nil _ | refine RenL.cons ?_ ?_ | refine .cells _ _ _ ?_ | refine .cons _ _ _ _ rfl ?_ ?_ | refine .cons _ _ _ _ _ rfl rfl ?_ ?_ | refine .rowsE ?_ | refine .sE rfl ?_ | exact .m _ _ rfl | refine .fE rfl ?_ | exact RenO.mB _ | exact RenO.mB [] | fail))
  unfold baseN; rfl
 rintro m env σ ⟨i, hi, rfl, rfl, rfl⟩
 by_cases h : i < k
 ·have hx : p.syms[i]? = some p.syms[i] := List.getElem?_eq_getElem (by omega)
  generalize p.syms[i] = s at hx
  have hs := c3 s (List.mem_of_getElem? hx)
  have hb := base_le c3 i
  repeat' (first | refine goR rfl ?_ | refine goS rfl ?_ | refine tret1 rfl ?_ | refine tretN rfl ?_ | refine gY rfl rfl ?_ | refine gN rfl rfl ?_ | refine qT rfl rfl ?_ | refine qF rfl rfl ?_ | refine qT rfl (dT (by omega)) ?_ | refine lT (tl_ixm rfl rfl rfl hx) ?_ | fail)
  refine again (m' := k - (i + 1)) (by omega) ?_ ⟨i + 1, by omega, rfl, rfl, rfl⟩
  (refine w_ren [(0, 0)] rfl (by rw [hp]; intro j hj; cases hj) rfl ?_ ?_ <;> repeat' (first | exact .nil | exact .f _ rfl | exact .s _ _ _ _ _ _ rfl | exact .p _ _ _ rfl | exact .rows _ _ _ | exact .iter _ _ | exact RenL.nil _ | refine RenL.cons ?_ ?_ | refine .cells _ _ _ ?_ | refine .cons _ _ _ _ rfl ?_ ?_ | refine .cons _ _ _ _ _ rfl rfl ?_ ?_ | refine .rowsE ?_ | refine .sE rfl ?_ | exact .m _ _ rfl | refine .fE rfl ?_ | exact RenO.mB _ | exact RenO.mB [] | fail))
  ·rw [baseN_succ _ _ _ hx, w64 (by omega)]
  ·rw [w64 (by omega)]; rfl
 ·have : i = k := by omega
  subst this
  repeat' (first | refine goR rfl ?_ | refine goS rfl ?_ | refine tret1 rfl ?_ | refine tretN rfl ?_ | refine gY rfl rfl ?_ | refine gN rfl rfl ?_ | refine qT rfl rfl ?_ | refine qF rfl rfl ?_ | refine qF rfl (dF (by omega)) ?_ | fail)
  exact .fr rfl
theorem address_spec (p : Prg) (hc : checkC p = 0) (o : Opd) (x : Thr) (s : Sym) (ho : MemOk p.syms o s) (hok : okOpd o = true) :
  Pure prog G 81 [.agg (cPrg p), .agg (cOpd o), .agg (cRegs x)] (.tup [tI ((addrW p.syms o x).getD 0), tB (addrW p.syms o x).isSome]) := by
 obtain ⟨c1, c2, c3, c4⟩ := check_syms hc
 have hsz := c3 s (List.mem_of_getElem? ho.get)
 have hlt := (List.getElem?_eq_some_iff.1 ho.get).1
 have hbl := base_le c3 o.sym.toNat
 have hsym := ho.sym
 have hmem : memK o = true := dT ho.kind
 have m1 := fun G => opdRight_spec2 (G := G) o
 have m2 := fun G => memory_spec2 (G := G) o
 simp only [hok] at m1
 simp only [hmem] at m2
 have hbs := fun G => base_spec (G := G) p hc o.sym.toNat (by omega)
 simp only [Int.toNat_of_nonneg hsym] at hbs
 have hadd : addrW p.syms o x = if 0 ≤ offW o x ∧ offW o x < s.size then some (baseN p.syms o.sym.toNat + offW o x) else none := by rw [addrW, ho.get]
 rw [hadd]
 refine Pure.at mixedOk F81 rfl fun C hP hG hp => goF ?_; simp only [F81, targEnv, Nat.zero_add, Nat.reduceAdd]
 by_cases hk : o.kind = 4
 ·have hoff : offW o x = getR x o.reg := if_pos hk
  have hr := ho.reg hk
  have hg : g8 o.reg x.r0 x.r1 x.r2 x.r3 x.r4 x.r5 x.r6 x.r7 = getR x o.reg := rfl
  rw [hoff]
  repeat' (first | refine goR rfl ?_ | refine goS rfl ?_ | refine tret1 rfl ?_ | refine tretN rfl ?_ | refine gY rfl rfl ?_ | refine gN rfl rfl ?_ | refine qT rfl rfl ?_ | refine qF rfl rfl ?_ | refine cA rfl (by rw [hP]; exact m1 _) rfl ?_ | refine cA rfl (by rw [hP]; exact m2 _) rfl ?_ | refine cA rfl (by rw [hP]; exact hbs _) rfl ?_ | refine lT (tl_iaAp rfl rfl (by omega)) ?_ | (refine lT (tl_ldR rfl rfl (at8 hr (by omega))) ?_; rw [hg]) | refine lT (tl_ixm rfl rfl (by omega) ho.get) ?_ | ((first | refine gS rfl (fun h => ?_) (fun h => ?_) | refine ts_cond rfl (fun h => ?_) (fun h => ?_)) <;> (try simp only [bs0, beq_iff_eq] at h) <;> try (exfalso; first | omega | (rw [lM] at h; omega); done)) | fail)
  ·rw [if_neg (by omega)]; exact .frT rfl
  ·rw [if_neg (by omega)]; exact .frT rfl
  ·rw [if_pos (by omega), w64 (by omega)]; exact .frT rfl
 ·have hoff : offW o x = o.n := if_neg hk
  have hn := ho.cell (ho.kind.resolve_right hk)
  rw [hoff]
  repeat' (first | refine goR rfl ?_ | refine goS rfl ?_ | refine tret1 rfl ?_ | refine tretN rfl ?_ | refine gY rfl rfl ?_ | refine gN rfl rfl ?_ | refine qT rfl rfl ?_ | refine qF rfl rfl ?_ | refine cA rfl (by rw [hP]; exact m1 _) rfl ?_ | refine cA rfl (by rw [hP]; exact m2 _) rfl ?_ | refine cA rfl (by rw [hP]; exact hbs _) rfl ?_ | refine lT (tl_ixm rfl rfl (by omega) ho.get) ?_ | ((first | refine gS rfl (fun h => ?_) (fun h => ?_) | refine ts_cond rfl (fun h => ?_) (fun h => ?_)) <;> (try simp only [bs0, beq_iff_eq] at h) <;> try (exfalso; first | omega | (rw [lM] at h; omega); done)) | fail)
  ·rw [if_pos hn, w64 (by omega)]; exact .frT rfl
end
section
attribute [local irreducible] TwS TwR thenT inBlockT retT IntKind.wrap baseN partsI
theorem at_spec (p : Prg) (ho : okP p) (hc : checkC p = 0) (t : Int) (x : Thr) : Pure prog Tabs 78 [.agg (cPrg p), tI t, .agg (cThr x)] (.tup [.agg (cIns (atW p t x).1), tB (atW p t x).2]) := by
 refine Pure.at mixedOk F78 rfl fun C hP hG hp => goF ?_; simp only [F78, targEnv, Nat.zero_add, Nat.reduceAdd]
 have hml : (p.threads.map cTh).length = p.threads.length := by rw [lM]
 cases hg : getT p t with
 | none =>
  have hcur : curI p t x = none := by unfold curI; rw [hg]; split <;> rfl
  have hno : t < 0 ∨ (p.threads.length : Int) ≤ t := by
   unfold getT at hg
   split at hg
   ·have := List.getElem?_eq_none_iff.1 hg; omega
   ·omega
  rw [show atW p t x = (noIns, false) by rw [atW, hcur]]
  repeat' (first | refine goR rfl ?_ | refine goS rfl ?_ | refine tret1 rfl ?_ | refine tretN rfl ?_ | refine gY rfl rfl ?_ | refine gN rfl rfl ?_ | refine qT rfl rfl ?_ | refine qF rfl rfl ?_ | ((first | refine gS rfl (fun h => ?_) (fun h => ?_) | refine ts_cond rfl (fun h => ?_) (fun h => ?_)) <;> (try simp only [bs0, beq_iff_eq] at h) <;> try (exfalso; omega; done)) | fail)
  all_goals repeat' (first | exact FzL.nil | refine FzL.cons ?_ ?_ | exact .nil _ | exact .f _ rfl | exact .frT rfl | refine .tupL ?_ | refine .aggL ?_ | exact .s _ _ _ _ _ _ rfl rfl | refine .pL rfl ?_)
 | some l =>
  have hgt : 0 ≤ t ∧ p.threads[t.toNat]? = some l := by
   unfold getT at hg
   split at hg
   ·exact ⟨by assumption, hg⟩
   ·cases hg
  obtain ⟨h0, hcg⟩ := hgt
  have hlt : t < (p.threads.length : Int) := by
   have := (List.getElem?_eq_some_iff.1 hcg).1
   omega
  have hcl : (l.map cIns).length = l.length := by rw [lM]
  by_cases hcc : x.st = 0 ∧ 0 ≤ x.pc ∧ x.pc < (l.length : Int)
  ·have hlt2 : x.pc.toNat < l.length := by omega
   have hgi : l[x.pc.toNat]? = some l[x.pc.toNat] := List.getElem?_eq_getElem hlt2
   generalize l[x.pc.toNat] = i at hgi
   have hcur : curI p t x = some i := by unfold curI; rw [hg, if_pos ⟨hcc.1, hcc.2.1⟩]; exact hgi
   obtain ⟨_, _, _, _, _, _, _, hio⟩ := cur_ok ho hc hcur
   have hto := hio.to
   rw [show atW p t x = (i, phB i x) by rw [atW, hcur]]
   repeat' (first | refine goR rfl ?_ | refine goS rfl ?_ | refine tret1 rfl ?_ | refine tretN rfl ?_ | refine gY rfl rfl ?_ | refine gN rfl rfl ?_ | refine qT rfl rfl ?_ | refine qF rfl rfl ?_ | refine lT (tl_ixm rfl rfl (by omega) hcg) ?_ | refine lT (tl_ixm rfl rfl (by omega) hgi) ?_ | refine cA rfl (by rw [hP, hG]; exact parts_spec2 i (by omega)) rfl ?_ | ((first | refine gS rfl (fun h => ?_) (fun h => ?_) | refine ts_cond rfl (fun h => ?_) (fun h => ?_)) <;> (try simp only [bs0, beq_iff_eq] at h) <;> try (exfalso; omega; done)) | fail)
   all_goals refine .eqT rfl ?_
   ·rw [show phB i x = true by unfold phB; rw [dT ‹x.ph = 0›]; rfl]; rfl
   ·rw [show phB i x = decide (partsI i = 2) by unfold phB; rw [dF ‹¬ x.ph = 0›, dT ‹x.ph = 1›]; rfl]; rfl
   ·rw [show phB i x = false by unfold phB; rw [dF ‹¬ x.ph = 0›, dF ‹¬ x.ph = 1›]; rfl]; rfl
  ·have hcur : curI p t x = none := by
    unfold curI
    split
    ·rename_i h1
     rw [hg]
     exact List.getElem?_eq_none_iff.2 (by omega)
    ·rfl
   rw [show atW p t x = (noIns, false) by rw [atW, hcur]]
   repeat' (first | refine goR rfl ?_ | refine goS rfl ?_ | refine tret1 rfl ?_ | refine tretN rfl ?_ | refine gY rfl rfl ?_ | refine gN rfl rfl ?_ | refine qT rfl rfl ?_ | refine qF rfl rfl ?_ | refine lT (tl_ixm rfl rfl (by omega) hcg) ?_ | ((first | refine gS rfl (fun h => ?_) (fun h => ?_) | refine ts_cond rfl (fun h => ?_) (fun h => ?_)) <;> (try simp only [bs0, beq_iff_eq] at h) <;> try (exfalso; omega; done)) | fail)
   all_goals repeat' (first | exact FzL.nil | refine FzL.cons ?_ ?_ | exact .nil _ | exact .f _ rfl | exact .frT rfl | refine .tupL ?_ | refine .aggL ?_ | exact .s _ _ _ _ _ _ rfl rfl | refine .pL rfl ?_)
end
end Go.Proofs.YtnphhelbianjpaaGreatDoor
namespace Go.Proofs.YtnphhelbianjpaaGreatDoor
set_option maxRecDepth 20000
open Go Go.Proofs.YtnphhelbianjpaaGreatDoor.V Go.Proofs

structure Form (i : Ins) : Prop where
 op : 1 ≤ i.op ∧ i.op ≤ 14
 ra : i.a.kind = 1 → 0 ≤ i.a.reg ∧ i.a.reg ≤ 7
 rb : i.b.kind = 1 → 0 ≤ i.b.reg ∧ i.b.reg ≤ 7
 oka : memK i.a = true → okOpd i.a = true
 okb : memK i.b = true → okOpd i.b = true
 two : memK i.a = true → memK i.b = false
 xch : i.op = 8 → memK i.a = true ∧ i.b.kind = 1 ∧ i.lock = false
 cmx : i.op = 9 → memK i.a = true ∧ i.b.kind = 1 ∧ i.lock = true
 lock : i.lock = true → memK i.a = true ∧ (i.op = 9 ∨ (2 ≤ i.op ∧ i.op ≤ 6))
 hi : 10 ≤ i.op → memK i.a = false ∧ memK i.b = false ∧ i.lock = false
 low : i.op ≤ 7 → memK i.a = false → i.a.kind = 1
 reads : readsB i = (memK i.b || memK i.a && !decide (i.op = 1))
 writes : writesB i = (memK i.a && !decide (i.op = 7))
 readO : readsB i = true → readsO i = if memK i.b = true then i.b else i.a
 writeO : writesB i = true → writesO i = i.a
 locked : lockedB i = (decide (i.op = 8) || i.lock)
theorem ok_reg {o : Opd} (h : okOpd o = true) : o.kind = 1 → 0 ≤ o.reg ∧ o.reg ≤ 7 := by
 unfold okOpd at h; simp only [decide_eq_true_eq] at h; omega
theorem form_of {i : Ins} (h : insRight i = 0) : Form i := by
 obtain ⟨m1, m2⟩ := memK_of h
 have hr := row_fits i
 have hf : fitsB i = true := by
  unfold insRight at h
  split at h
  ·cases h
  ·rename_i hf
   simp only [not_or, Bool.not_eq_false] at hf
   exact hf.1
 rw [hf] at hr
 simp only [Bool.and_eq_true, decide_eq_true_eq] at hr
 obtain ⟨hop, hr, _⟩ := hr
 have e1 : readsB i = (memK i.b || memK i.a && !decide (i.op = 1)) := by unfold readsB; rw [dT h, m1, m2, Bool.true_and]
 have e2 : writesB i = (memK i.a && !decide (i.op = 7)) := by unfold writesB; rw [dT h, m1, Bool.true_and]
 have e3 : readsB i = true → readsO i = if memK i.b = true then i.b else i.a := fun hh => by unfold readsO; rw [if_pos hh, m2]
 have e4 : writesB i = true → writesO i = i.a := fun hh => by unfold writesO; rw [if_pos hh]
 have e5 : lockedB i = (decide (i.op = 8) || i.lock) := by unfold lockedB; rw [dT h, Bool.true_and]
 unfold rowB at hr
 split at hr
 ·rename_i h9
  simp only [Bool.and_eq_true, Bool.not_eq_true'] at hr
  obtain ⟨ha, hb, hl⟩ := hr
  unfold isZero at ha hb
  simp only [Bool.and_eq_true, decide_eq_true_eq] at ha hb
  have k1 : memK i.a = false := by unfold memK; exact dF (by omega)
  have k2 : memK i.b = false := by unfold memK; exact dF (by omega)
  exact ⟨hop, by omega, by omega, by rw [k1]; simp, by rw [k2]; simp, by rw [k1]; simp, by omega, by omega, by rw [hl]; simp, fun _ => ⟨k1, k2, hl⟩, by omega, e1, e2, e3, e4, e5⟩
 ·rename_i h9
  split at hr
  ·rename_i ho
   have k1 := ok_reg ho.1
   have k2 := ok_reg ho.2
   have kb : i.b.kind = 1 → memK i.b = false := fun hk => by unfold memK; exact dF (by omega)
   have ka : i.a.kind = 1 → memK i.a = false := fun hk => by unfold memK; exact dF (by omega)
   have kp : plK i.b = true → memK i.b = false := fun hk => by
    unfold plK at hk; simp only [decide_eq_true_eq] at hk
    unfold memK; exact dF (by omega)
   split at hr
   ·simp only [Bool.and_eq_true, decide_eq_true_eq, Bool.not_eq_true'] at hr
    obtain ⟨q1, q2, q3⟩ := hr
    exact ⟨hop, k1, k2, fun _ => ho.1, fun _ => ho.2, fun _ => kb q2, fun _ => ⟨q1, q2, q3⟩, by omega, by rw [q3]; simp, by omega, by omega, e1, e2, e3, e4, e5⟩
   ·split at hr
    ·simp only [Bool.and_eq_true, decide_eq_true_eq] at hr
     obtain ⟨q1, q2, q3⟩ := hr
     exact ⟨hop, k1, k2, fun _ => ho.1, fun _ => ho.2, fun _ => kb q2, by omega, fun _ => ⟨q1, q2, q3⟩, fun _ => ⟨q1, .inl (by assumption)⟩, by omega, by omega, e1, e2, e3, e4, e5⟩
    ·split at hr
     ·rename_i q0
      simp only [Bool.and_eq_true, Bool.not_eq_true'] at hr
      exact ⟨hop, k1, k2, fun _ => ho.1, fun _ => ho.2, by rw [ka q0]; simp, by omega, by omega, by rw [hr.2]; simp, by omega, fun _ _ => q0, e1, e2, e3, e4, e5⟩
     ·simp only [Bool.and_eq_true, Bool.or_eq_true, Bool.not_eq_true', decide_eq_true_eq] at hr
      obtain ⟨q1, q2, q3⟩ := hr
      exact ⟨hop, k1, k2, fun _ => ho.1, fun _ => ho.2, fun _ => kp q2, by omega, by omega, fun hl => ⟨q1, .inr (q3.resolve_left (by rw [hl]; simp))⟩, by omega, by rw [q1]; simp, e1, e2, e3, e4, e5⟩
  ·cases hr
theorem opd_same {i : Ins} (hf : Form i) (h1 : readsB i = true) : opdOf i = readsO i := by
 unfold opdOf
 split
 ·rename_i hw
  rw [hf.writeO hw, hf.readO h1]
  have := hf.writes
  rw [hw] at this
  have h3 : memK i.a = true := by
   cases hm : memK i.a with
   | true => rfl
   | false => rw [hm] at this; cases this
  rw [hf.two h3]; rfl
 ·rfl
theorem opd_mem {p : Prg} {i : Ins} (h : InsOk p i) (hw : (readsB i || writesB i) = true) : okOpd (opdOf i) = true ∧ ∃ s, MemOk p.syms (opdOf i) s := by
 have hf := form_of h.right
 have key : (memK i.a = true → opdOf i = i.a → okOpd (opdOf i) = true ∧ ∃ s, MemOk p.syms (opdOf i) s) := fun hm e => by
  rw [e]; exact ⟨hf.oka hm, mem_ok (hf.oka hm) hm h.pa⟩
 have keyb : (memK i.b = true → opdOf i = i.b → okOpd (opdOf i) = true ∧ ∃ s, MemOk p.syms (opdOf i) s) := fun hm e => by
  rw [e]; exact ⟨hf.okb hm, mem_ok (hf.okb hm) hm h.pb⟩
 cases hwb : writesB i with
 | true =>
  have e : opdOf i = i.a := by unfold opdOf; rw [if_pos hwb, hf.writeO hwb]
  have h3 := hf.writes
  rw [hwb] at h3
  refine key ?_ e
  cases hm : memK i.a with
  | true => rfl
  | false => rw [hm] at h3; cases h3
 | false =>
  rw [hwb, Bool.or_false] at hw
  have e : opdOf i = if memK i.b = true then i.b else i.a := by rw [opd_same hf hw, hf.readO hw]
  by_cases hm : memK i.b = true
  ·rw [if_pos hm] at e; exact keyb hm e
  ·rw [if_neg hm] at e
   have h3 := hf.reads
   rw [hw, show memK i.b = false by simpa using hm, Bool.false_or] at h3
   refine key ?_ e
   cases hm : memK i.a with
   | true => rfl
   | false => rw [hm] at h3; cases h3
end Go.Proofs.YtnphhelbianjpaaGreatDoor
namespace Go.Proofs.YtnphhelbianjpaaGreatDoor
set_option maxRecDepth 20000
open Go Go.Proofs.YtnphhelbianjpaaGreatDoor.V Go.Proofs

def stepW (p : Prg) (i : Ins) (x : Thr) : Deed := if readsB i = true ∨ writesB i = true then (match addrW p.syms (opdOf i) x with
  | none => ⟨6, 0, 0⟩
  | some a => if x.ph = 1 then ⟨3, a, (doW i.op x.la (numW i.b x)).1⟩ else if lockedB i = true then ⟨4, a, 0⟩ else if readsB i = true then ⟨2, a, 0⟩ else ⟨3, a, numW i.b x⟩)
 else if i.op = 12 then ⟨5, 0, 0⟩ else ⟨1, 0, 0⟩
theorem step_none {p : Prg} {i : Ins} {x : Thr} (h : readsB i = true ∨ writesB i = true) (ha : addrW p.syms (opdOf i) x = none) : stepW p i x = ⟨6, 0, 0⟩ := by rw [stepW, if_pos h, ha]
theorem step_some {p : Prg} {i : Ins} {x : Thr} {a : Int} (h : readsB i = true ∨ writesB i = true) (ha : addrW p.syms (opdOf i) x = some a) :
  stepW p i x = if x.ph = 1 then ⟨3, a, (doW i.op x.la (numW i.b x)).1⟩ else if lockedB i = true then ⟨4, a, 0⟩ else if readsB i = true then ⟨2, a, 0⟩ else ⟨3, a, numW i.b x⟩ := by rw [stepW, if_pos h, ha]
theorem step_loc {p : Prg} {i : Ins} {x : Thr} (h : ¬ (readsB i = true ∨ writesB i = true)) : stepW p i x = if i.op = 12 then ⟨5, 0, 0⟩ else ⟨1, 0, 0⟩ := by rw [stepW, if_neg h]
def nextW (p : Prg) (t : Int) (x : Thr) : Deed := match curI p t x with
 | some i => if phB i x = true then stepW p i x else ⟨0, 0, 0⟩
 | none => ⟨0, 0, 0⟩
def incP (x : Thr) : Thr := { x with pc := i64 (x.pc + 1) }
def doLocal (i : Ins) (tgt : Int) (x : Thr) : Thr :=
 if i.op = 14 then { x with st := 1 }
 else if i.op = 10 ∨ (i.op = 11 ∧ holdsW i.cond x.f = true) then { x with pc := tgt }
 else if i.op = 1 then incP (setR x i.a.reg (numW i.b x))
 else if 2 ≤ i.op ∧ i.op ≤ 7 then incP { setR x i.a.reg (doW i.op (getR x i.a.reg) (numW i.b x)).1 with f := (doW i.op (getR x i.a.reg) (numW i.b x)).2.1 }
 else incP x
def localI (p : Prg) (t : Int) (i : Ins) (x : Thr) : Thr :=
 if (stepW p i x).kind = 6 then { x with st := 2 }
 else if (stepW p i x).kind = 5 then incP x
 else if (stepW p i x).kind = 3 then (if x.ph = 1 then incP { x with f := (doW i.op x.la (numW i.b x)).2.1, ph := 0, la := 0 } else incP x)
 else if (stepW p i x).kind = 1 then doLocal i (tgtOf p t i) x
 else x
def localW (p : Prg) (t : Int) (x : Thr) : Thr := match curI p t x with
 | some i => if phB i x = true then localI p t i x else x
 | none => x
def loadedI (i : Ins) (x : Thr) (v : Int) : Thr :=
 if partsI i = 2 then { x with ph := 1, la := v }
 else if i.op = 1 then incP (setR x i.a.reg v)
 else if i.op = 7 ∧ i.a.kind ≠ 1 then incP { x with f := (doW 7 v (numW i.b x)).2.1 }
 else if i.op = 7 then incP { x with f := (doW 7 (getR x i.a.reg) v).2.1 }
 else incP { setR x i.a.reg (doW i.op (getR x i.a.reg) v).1 with f := (doW i.op (getR x i.a.reg) v).2.1 }
def loadedW (p : Prg) (t : Int) (x : Thr) (v : Int) : Thr := match curI p t x with
 | some i => if phB i x = true ∧ (stepW p i x).kind = 2 then loadedI i x v else x
 | none => x
def swapI (i : Ins) (x : Thr) (v : Int) : Thr × Int × Bool :=
 if i.op = 8 then (setR (incP x) i.b.reg v, numW i.b x, true)
 else if i.op = 9 then (if x.r0 = v then ({ incP x with f := (doW 7 x.r0 v).2.1 }, numW i.b x, true) else ({ incP x with f := (doW 7 x.r0 v).2.1, r0 := v }, 0, false))
 else ({ incP x with f := (doW i.op v (numW i.b x)).2.1 }, (doW i.op v (numW i.b x)).1, true)
def swapW (p : Prg) (t : Int) (x : Thr) (v : Int) : Thr × Int × Bool := match curI p t x with
 | some i => if phB i x = true ∧ (stepW p i x).kind = 4 then swapI i x v else (x, 0, false)
 | none => (x, 0, false)
section
attribute [local irreducible] TwS TwR thenT inBlockT retT readsB writesB readsO writesO lockedB partsI addrW opdOf phB doW numW
theorem next_spec (p : Prg) (ho : okP p) (hc : checkC p = 0) (t : Int) (x : Thr) (hx : thrR x) : Pure prog Tabs 35 [.fp (cCore p) 0, tI t, .agg (cThr x)] (.agg (cDeed (nextW p t x))) := by
 have c := fun G => line_spec (G := G) p t x
 refine Pure.at mixedOk F35 rfl fun C hP hG hp => goF ?_; simp only [F35, targEnv, Nat.zero_add, Nat.reduceAdd]
 cases hcur : curI p t x with
 | none =>
  rw [show nextW p t x = ⟨0, 0, 0⟩ by rw [nextW, hcur]]
  simp only [lineP, hcur] at c
  repeat' (first | refine goR rfl ?_ | refine goS rfl ?_ | refine tret1 rfl ?_ | refine tretN rfl ?_ | refine gY rfl rfl ?_ | refine gN rfl rfl ?_ | refine qT rfl rfl ?_ | refine qF rfl rfl ?_ | refine cA rfl (by rw [hP]; exact c _) rfl ?_ | ((first | refine gS rfl (fun h => ?_) (fun h => ?_) | refine ts_cond rfl (fun h => ?_) (fun h => ?_)) <;> try simp only [bs0, beq_iff_eq] at h) | fail)
  exact .fr rfl
 | some i =>
  obtain ⟨_, _, _, _, _, _, _, hio⟩ := cur_ok ho hc hcur
  have hf := form_of hio.right
  simp only [lineP, hcur, lineOf] at c
  cases hph : phB i x with
  | false =>
   rw [show nextW p t x = ⟨0, 0, 0⟩ by rw [nextW, hcur]; simp only [hph]; rfl]
   simp only [hph] at c
   repeat' (first | refine goR rfl ?_ | refine goS rfl ?_ | refine tret1 rfl ?_ | refine tretN rfl ?_ | refine gY rfl rfl ?_ | refine gN rfl rfl ?_ | refine qT rfl rfl ?_ | refine qF rfl rfl ?_ | refine cA rfl (by rw [hP]; exact c _) rfl ?_ | ((first | refine gS rfl (fun h => ?_) (fun h => ?_) | refine ts_cond rfl (fun h => ?_) (fun h => ?_)) <;> try simp only [bs0, beq_iff_eq] at h) | fail)
   exact .fr rfl
  | true =>
   rw [show nextW p t x = stepW p i x by rw [nextW, hcur]; simp only [hph]; rfl]
   simp only [hph] at c
   by_cases hm : (readsB i || writesB i) = true
   ·have hm' : readsB i = true ∨ writesB i = true := by simpa using hm
    obtain ⟨_, s, hs⟩ := opd_mem hio hm
    have ca := fun G => addr_spec (G := G) p hc (opdOf i) x hx s hs
    simp only [hm] at c
    cases hadd : addrW p.syms (opdOf i) x with
    | none =>
     simp only [hadd, Option.getD_none, Option.isSome_none] at ca
     rw [step_none hm' hadd]
     repeat' (first | refine goR rfl ?_ | refine goS rfl ?_ | refine tret1 rfl ?_ | refine tretN rfl ?_ | refine gY rfl rfl ?_ | refine gN rfl rfl ?_ | refine qT rfl rfl ?_ | refine qF rfl rfl ?_ | refine cA rfl (by rw [hP]; exact c _) rfl ?_ | refine cA rfl (by rw [hP]; exact ca _) rfl ?_ | ((first | refine gS rfl (fun h => ?_) (fun h => ?_) | refine ts_cond rfl (fun h => ?_) (fun h => ?_)) <;> try simp only [bs0, beq_iff_eq] at h) | fail)
     exact .fr rfl
    | some a =>
     simp only [hadd, Option.getD_some, Option.isSome_some] at ca
     rw [step_some hm' hadd]
     repeat' (first | refine goR rfl ?_ | refine goS rfl ?_ | refine tret1 rfl ?_ | refine tretN rfl ?_ | refine gY rfl rfl ?_ | refine gN rfl rfl ?_ | refine qT rfl rfl ?_ | refine qF rfl rfl ?_ | refine cA rfl (by rw [hP]; exact c _) rfl ?_ | refine cA rfl (by rw [hP]; exact ca _) rfl ?_ | refine cA rfl (by rw [hP]; exact number_spec i.b x hf.rb) rfl ?_ | refine cA rfl (by rw [hP]; exact do_spec _ _ _) rfl ?_ | ((first | refine gS rfl (fun h => ?_) (fun h => ?_) | refine ts_cond rfl (fun h => ?_) (fun h => ?_)) <;> try simp only [bs0, beq_iff_eq] at h) | fail)
     ·rw [if_pos (by assumption)]; exact .fr rfl
     ·rw [if_neg (by assumption), if_pos (by assumption)]; exact .fr rfl
     ·rw [if_neg (by assumption), if_neg (by rw [‹lockedB i = false›]; decide), if_pos (by assumption)]; exact .fr rfl
     ·rw [if_neg (by assumption), if_neg (by rw [‹lockedB i = false›]; decide), if_neg (by rw [‹readsB i = false›]; decide)]; exact .fr rfl
   ·have hm' : ¬ (readsB i = true ∨ writesB i = true) := by simpa using hm
    rw [Bool.not_eq_true] at hm
    simp only [hm] at c
    rw [step_loc hm']
    repeat' (first | refine goR rfl ?_ | refine goS rfl ?_ | refine tret1 rfl ?_ | refine tretN rfl ?_ | refine gY rfl rfl ?_ | refine gN rfl rfl ?_ | refine qT rfl rfl ?_ | refine qF rfl rfl ?_ | refine cA rfl (by rw [hP]; exact c _) rfl ?_ | ((first | refine gS rfl (fun h => ?_) (fun h => ?_) | refine ts_cond rfl (fun h => ?_) (fun h => ?_)) <;> try simp only [bs0, beq_iff_eq] at h) | fail)
    ·rw [if_pos h]; exact .fr rfl
    ·rw [if_neg h]; exact .fr rfl
end
end Go.Proofs.YtnphhelbianjpaaGreatDoor
namespace Go.Proofs.YtnphhelbianjpaaGreatDoor
set_option maxRecDepth 20000
open Go Go.Proofs.YtnphhelbianjpaaGreatDoor.V Go.Proofs
def lineC (i : Ins) (a : Opd) (has reads locked two : Bool) (target : Int) : List TV := [tI i.op, tB i.lock, tI i.cond, tI i.a.kind, tI i.a.reg, tI i.a.sym, tI i.a.n, tI i.b.kind, tI i.b.reg, tI i.b.sym, tI i.b.n, tS i.to, .lst 1 (i.labels.map fun s => [tS s]),
 tI a.kind, tI a.reg, tI a.sym, tI a.n, tB has, tB reads, tB locked, tB two, tI target]
theorem cLine_mk (i : Ins) (a : Opd) (has reads locked two : Bool) (target : Int) : cLine ⟨i, a, has, reads, locked, two, target⟩ = lineC i a has reads locked two target := rfl
section
attribute [local irreducible] TwS TwR thenT inBlockT retT readsB writesB readsO writesO lockedB partsI addrW opdOf phB doW numW IntKind.wrap holdsW
theorem local_spec {G : World → Prop} (i : Ins) (a : Opd) (b1 b2 b3 b4 : Bool) (tgt : Int) (x : Thr) (hf : Form i) (hl : i.op ≤ 7 → i.a.kind = 1) : Pure prog G 114 [.agg (lineC i a b1 b2 b3 b4 tgt), .agg (cThr x)] (.agg (cThr (doLocal i tgt x))) := by
 have h1 := hf.op
 have hr := hf.ra
 refine Pure.at mixedOk F114 rfl fun C hP hG hp => goF ?_; simp only [F114, targEnv, Nat.zero_add, Nat.reduceAdd]
 repeat' (first | refine goR rfl ?_ | refine goS rfl ?_ | refine tret1 rfl ?_ | refine tretN rfl ?_ | refine gY rfl rfl ?_ | refine gN rfl rfl ?_ | refine qT rfl rfl ?_ | refine qF rfl rfl ?_ | refine cA rfl (by rw [hP]; exact holds_spec _ _) rfl ?_ | refine cA rfl (by rw [hP]; exact number_spec i.b x hf.rb) rfl ?_ | refine cA rfl (by rw [hP]; exact do_spec _ _ _) rfl ?_ | refine lT (tl_iaAp rfl rfl (by have := hr (hl (by omega)); omega)) ?_ | refine lT (tl_ldR rfl rfl (at8 (hr (hl (by omega))) (by omega))) ?_ | refine tr_store rfl rfl rfl rfl rfl (put8 (hr (hl (by omega))) (by omega)) rfl ?_ | ((first | refine gS rfl (fun h => ?_) (fun h => ?_) | refine ts_cond rfl (fun h => ?_) (fun h => ?_)) <;> (try simp only [bs0, beq_iff_eq] at h) <;> try (exfalso; omega; done)) | fail)
 ·rw [doLocal, if_pos h]; exact .fr rfl
 ·rw [doLocal, if_neg (by omega), if_pos (.inl h)]; exact .fr rfl
 ·rw [doLocal, if_neg (by omega), if_pos (.inr ⟨by assumption, h⟩)]; exact .fr rfl
 ·rw [doLocal, if_neg (by omega), if_neg (by rw [‹holdsW i.cond x.f = false›]; simp; omega), if_neg (by omega), if_neg (by omega)]; exact .fr rfl
 ·rw [doLocal, if_neg (by omega), if_neg (by omega), if_pos h]; exact .fr rfl
 ·rw [doLocal, if_neg (by omega), if_neg (by omega), if_neg (by omega), if_pos (by omega)]; exact .fr rfl
 ·rw [doLocal, if_neg (by omega), if_neg (by omega), if_neg (by omega), if_neg (by omega)]; exact .fr rfl
end
end Go.Proofs.YtnphhelbianjpaaGreatDoor
