/-
  Walks of functions of the program, and what the laws need of them.
-/
import Derived.Test.YtphcaohldmdglaaGreatDoorRPG
import Derived.Test.YtphcaohldmdglaaGreatDoorRPK
set_option linter.all false
set_option linter.unusedSimpArgs false
set_option linter.unusedVariables false
set_option linter.unnecessarySimpa false
namespace Go.Proofs.YtphcaohldmdglaaGreatDoor
set_option maxRecDepth 20000
open Go Go.Proofs.YtphcaohldmdglaaGreatDoor.V Go.Proofs
theorem tv_of {P : Program} {d : Nat} {t : TypeId} {cs : List TV} {ts : List TypeId} (ht : (P.underlying t).bind stTys = some ts) (h : TyL P d t cs) : TyV P d (.agg cs) t := by
 unfold TyV
 cases hu : P.underlying t with
 | none => rw [hu] at ht; cases ht
 | some u =>
  rw [hu] at ht
  cases u with
  | struct fs => exact ⟨_, rfl, h⟩
  | _ => cases ht
theorem st_state : (prog.underlying ty_api_State).bind stTys = some [ty_sl_int64, ty_sl_api_Thr, ty_sl_sl_api_Entry, ty_int] := by kernel_rfl
theorem st_entry : (prog.underlying ty_api_Entry).bind stTys = some [ty_int, ty_int64] := by kernel_rfl
theorem un_thrs : prog.underlying ty_sl_api_Thr = some (.slice ty_api_Thr) := by kernel_rfl
theorem un_bufs : prog.underlying ty_sl_sl_api_Entry = some (.slice ty_sl_api_Entry) := by kernel_rfl
theorem un_buf : prog.underlying ty_sl_api_Entry = some (.slice ty_api_Entry) := by kernel_rfl
theorem ce_thr : prog.cellsOf ty_api_Thr = 16 := by kernel_rfl
theorem ce_buf : prog.cellsOf ty_sl_api_Entry = 1 := by kernel_rfl
theorem ce_entry : prog.cellsOf ty_api_Entry = 2 := by kernel_rfl
theorem entry_ty {d : Nat} {cs : List TV} (h : TyL prog (d + 2) ty_api_Entry cs) : ∃ a : Entry, cs = cEntry a := by
 obtain ⟨xs, rfl, k⟩ := tl_st st_entry h
 cases k with | cons g0 k =>
 cases k with | cons g1 k =>
 cases k
 obtain ⟨a0, rfl, _⟩ := tl_int un_int g0
 obtain ⟨a1, rfl, _⟩ := tl_int un_int64 g1
 exact ⟨⟨a0, a1⟩, rfl⟩
theorem thr_tyL {d : Nat} {cs : List TV} (h : TyL prog (d + 3) ty_api_Thr cs) : ∃ y : Thr, cs = cThr y := by
 obtain ⟨y, e, _⟩ := thr_ty (tv_of st_thr h)
 cases e
 exact ⟨y, rfl⟩
theorem state_ty {d : Nat} {x : TV} (h : TyV prog (d + 5) x ty_api_State) : ∃ s : State, x = .agg (cState s) := by
 obtain ⟨cs, rfl, m⟩ := tv_agg st_state h
 obtain ⟨xs, rfl, k⟩ := tl_st st_state m
 cases k with | cons g0 k =>
 cases k with | cons g1 k =>
 cases k with | cons g2 k =>
 cases k with | cons g3 k =>
 cases k
 obtain ⟨xs, rfl, k⟩ := tl_sli un_i64s ce_i64 g0
 obtain ⟨a0, rfl⟩ := map_of' (c := fun s => [tI s]) fun x hx => let ⟨s, e, _⟩ := tl_int un_int64 (k x hx); ⟨s, e⟩
 obtain ⟨xs, rfl, k⟩ := tl_sli un_thrs ce_thr g1
 obtain ⟨a1, rfl⟩ := map_of' (c := cThr) fun x hx => thr_tyL (k x hx)
 obtain ⟨xs, rfl, k⟩ := tl_sli un_bufs ce_buf g2
 obtain ⟨a2, rfl⟩ := map_of' (c := cBuf) fun x hx => by
  obtain ⟨ys, e, n⟩ := tl_sli un_buf ce_entry (k x hx)
  obtain ⟨l, rfl⟩ := map_of' (c := cEntry) fun y hy => entry_ty (n y hy)
  exact ⟨l, e⟩
 obtain ⟨a3, rfl, _⟩ := tl_int un_int g3
 exact ⟨⟨a0, a1, a2, a3⟩, rfl⟩
end Go.Proofs.YtphcaohldmdglaaGreatDoor
namespace Go.Proofs.YtphcaohldmdglaaGreatDoor
set_option maxRecDepth 20000
open Go Go.Proofs.YtphcaohldmdglaaGreatDoor.V Go.Proofs
def bufG (b : List Entry) : Bool := decide (12 < b.length)
def greatS (s : State) : Bool := if 30 < s.mem.length ∨ 8 < s.thr.length ∨ 8 < s.bufs.length then true else s.bufs.any bufG
section
attribute [local irreducible] TwS TwR thenT inBlockT retT nextW localW loadedW swapW
variable {G : World → Prop}
theorem greatS_spec (s : State) : Pure prog G n_book_GreatState [.agg (cState s)] (tB (greatS s)) := by
 have e1 : (s.mem.map fun n => [tI n]).length = s.mem.length := lM ..
 have e2 : (s.thr.map cThr).length = s.thr.length := lM ..
 have e3 : (s.bufs.map cBuf).length = s.bufs.length := lM ..
 refine Pure.of mixedOk (fn := f_book_GreatState) (by kernel_rfl) (by kernel_rfl) ok_book_GreatState rfl fun C hP hG hp => goF ?_; simp only [fs_book_GreatState, targEnv, Nat.zero_add, Nat.reduceAdd]
 by_cases hb : 30 < s.mem.length ∨ 8 < s.thr.length ∨ 8 < s.bufs.length
 ·rw [greatS, if_pos hb]
  repeat' (first | refine goR rfl ?_ | refine goS rfl ?_ | refine tret1 rfl ?_ | refine tretN rfl ?_ | refine gY rfl rfl ?_ | refine gN rfl rfl ?_ | refine qT rfl rfl ?_ | refine qF rfl rfl ?_ | ((first | refine gS rfl (fun h => ?_) (fun h => ?_) | refine ts_cond rfl (fun h => ?_) (fun h => ?_)) <;> (try simp only [bs0, beq_iff_eq] at h) <;> try (exfalso; omega; done)) | fail)
  all_goals exact .fr rfl
 rw [greatS, if_neg hb]
 repeat' (first | refine goR rfl ?_ | refine goS rfl ?_ | refine tret1 rfl ?_ | refine tretN rfl ?_ | refine gY rfl rfl ?_ | refine gN rfl rfl ?_ | refine qT rfl rfl ?_ | refine qF rfl rfl ?_ | ((first | refine gS rfl (fun h => ?_) (fun h => ?_) | refine ts_cond rfl (fun h => ?_) (fun h => ?_)) <;> (try simp only [bs0, beq_iff_eq] at h) <;> try (exfalso; omega; done)) | fail)
 refine loopS (fun m env σ => ∃ a b, s.bufs = a ++ b ∧ m = b.length ∧ s.bufs.any bufG = b.any bufG ∧ env = [(1, .p 0 0), (3, tI a.length)] ∧ σ = ⟨[(0, .cells (cState s) ty_api_State)], 1⟩) s.bufs.length ?_ ⟨[], s.bufs, rfl, rfl, rfl, rfl, rfl⟩ ?_
 ·(refine w_ren [(0, 0)] rfl (by rw [hp]; intro j hj; cases hj) rfl ?_ ?_ <;> repeat' (first | exact .nil | exact .f _ rfl | exact .s _ _ _ _ _ _ rfl | exact .p _ _ _ rfl | exact .rows _ _ _ | exact .iter _ _ | exact RenL.nil _ | refine RenL.cons ?_ ?_ | refine .cells _ _ _ ?_ | refine .cons _ _ _ _ rfl ?_ ?_ | refine .cons _ _ _ _ _ rfl rfl ?_ ?_ | refine .rowsE ?_ | refine .sE rfl ?_ | exact .m _ _ rfl | refine .fE rfl ?_ | exact RenO.mB _ | exact RenO.mB [] | fail))
 rintro m env σ ⟨a, b, e, rfl, hI, rfl, rfl⟩
 have hla : s.bufs.length = a.length + b.length := by rw [e, lA]
 cases b with
 | nil =>
  rw [List.length_nil] at hla
  repeat' (first | refine goR rfl ?_ | refine goS rfl ?_ | refine tret1 rfl ?_ | refine tretN rfl ?_ | refine gY rfl rfl ?_ | refine gN rfl rfl ?_ | refine qT rfl rfl ?_ | refine qF rfl rfl ?_ | refine qF rfl (dF (by rw [lM]; omega)) ?_ | fail)
  rw [hI]
  exact .fr rfl
 | cons x b =>
  have hx : s.bufs[a.length]? = some x := by rw [e]; exact ix
  simp only [List.length_cons] at hla
  simp only [List.any_cons] at hI
  have hxl : (x.map cEntry).length = x.length := lM ..
  repeat' (first | refine goR rfl ?_ | refine goS rfl ?_ | refine tret1 rfl ?_ | refine tretN rfl ?_ | refine gY rfl rfl ?_ | refine gN rfl rfl ?_ | refine qT rfl rfl ?_ | refine qF rfl rfl ?_ | refine qT rfl (dT (by rw [lM]; omega)) ?_ | refine lT (tl_ixm rfl rfl rfl hx) ?_ | ((first | refine gS rfl (fun h => ?_) (fun h => ?_) | refine ts_cond rfl (fun h => ?_) (fun h => ?_)) <;> try simp only [bs0, beq_iff_eq] at h) | fail)
  ·have : s.bufs.any bufG = true := by rw [hI, bufG, dT (by omega), Bool.true_or]
   rw [this]
   exact .fr rfl
  ·refine again (m' := b.length) (Nat.lt_succ_self _) ?_ ⟨a ++ [x], b, by rw [e]; simp, rfl, by rw [hI, bufG, dF (by omega), Bool.false_or], rfl, rfl⟩
   (refine w_ren [(0, 0)] rfl (by rw [hp]; intro j hj; cases hj) rfl ?_ ?_ <;> repeat' (first | exact .nil | exact .f _ rfl | exact .s _ _ _ _ _ _ rfl | exact .p _ _ _ rfl | exact .rows _ _ _ | exact .iter _ _ | exact RenL.nil _ | refine RenL.cons ?_ ?_ | refine .cells _ _ _ ?_ | refine .cons _ _ _ _ rfl ?_ ?_ | refine .cons _ _ _ _ _ rfl rfl ?_ ?_ | refine .rowsE ?_ | refine .sE rfl ?_ | exact .m _ _ rfl | refine .fE rfl ?_ | exact RenO.mB _ | exact RenO.mB [] | fail))
   all_goals first | rfl | (rw [w64 (by omega), lA, List.length_singleton]; rfl) | (rw [lA]; rfl) | (rw [List.map_append]; rfl) | rw [lM] | rw [List.append_nil] | skip
theorem size_spec (p : Prg) (ho : okP p) (hc : checkC p = 0) : Pure prog Tabs n_ref2_Size [.agg (cPrg p)] (tI ((startF p.syms).length : Nat)) := by
 have c1 := check_spec2 p ho
 rw [hc] at c1
 have hl : (p.syms.map cSym).length = p.syms.length := lM ..
 have c2 : ∀ G, Pure prog G n_ref2_base [.agg (cPrg p), tI ((p.syms.map cSym).length : Nat)] (tI ((startF p.syms).length : Nat)) := fun G => by
  have := base_spec (G := G) p hc p.syms.length (Nat.le_refl _)
  rw [hl]
  rwa [show baseN p.syms p.syms.length = ((startF p.syms).length : Nat) by rw [startF_sum _ (check_syms hc).2.2.1, baseN, List.take_length]] at this
 refine Pure.of mixedOk (fn := f_ref2_Size) (by kernel_rfl) (by kernel_rfl) ok_ref2_Size rfl fun C hP hG hp => goF ?_; simp only [fs_ref2_Size, targEnv, Nat.zero_add, Nat.reduceAdd]
 repeat' (first | refine goR rfl ?_ | refine goS rfl ?_ | refine tret1 rfl ?_ | refine tretN rfl ?_ | refine gY rfl rfl ?_ | refine gN rfl rfl ?_ | refine qT rfl rfl ?_ | refine qF rfl rfl ?_ | refine cA rfl (by rw [hP, hG]; exact c1) rfl ?_ | refine cA rfl (by rw [hP]; exact c2 _) rfl ?_ | fail)
 exact .fr rfl
end
end Go.Proofs.YtphcaohldmdglaaGreatDoor
