/-
  Walks of functions of the program, and what the laws need of them.
-/
import Derived.Test.YtnphhelbianjpaaDoorRPG
import Derived.Test.YtnphhelbianjpaaDoorRPM
set_option linter.all false
set_option linter.unusedSimpArgs false
set_option linter.unusedVariables false
set_option linter.unnecessarySimpa false
namespace Go.Proofs.YtnphhelbianjpaaDoor
set_option maxRecDepth 20000
open Go Go.Proofs.YtnphhelbianjpaaDoor.V Go.Proofs
theorem st_progP : (prog.underlying 28).bind stTys = some [25, 26] := by kernel_rfl
theorem st_symP : (prog.underlying 45).bind stTys = some [9, 3, 43] := by kernel_rfl
theorem st_threadP : (prog.underlying 49).bind stTys = some [47] := by kernel_rfl
theorem st_insP : (prog.underlying 54).bind stTys = some [3, 4, 3, 51, 51, 9, 52] := by kernel_rfl
theorem st_opdP : (prog.underlying 51).bind stTys = some [3, 3, 3, 2] := by kernel_rfl
theorem un_intP : prog.underlying 3 = some (.int .i64) := by kernel_rfl
theorem un_int64P : prog.underlying 2 = some (.int .i64) := by kernel_rfl
theorem un_boolP : prog.underlying 4 = some .bool := by kernel_rfl
theorem un_stringP : prog.underlying 9 = some .string := by kernel_rfl
theorem un_symsP : prog.underlying 25 = some (.slice 45) := by kernel_rfl
theorem un_thsP : prog.underlying 26 = some (.slice 49) := by kernel_rfl
theorem un_inssP : prog.underlying 47 = some (.slice 54) := by kernel_rfl
theorem un_i64sP : prog.underlying 43 = some (.slice 2) := by kernel_rfl
theorem un_strsP : prog.underlying 52 = some (.slice 9) := by kernel_rfl
theorem ce_symP : prog.cellsOf 45 = 3 := by kernel_rfl
theorem ce_thP : prog.cellsOf 49 = 1 := by kernel_rfl
theorem ce_insP : prog.cellsOf 54 = 13 := by kernel_rfl
theorem ce_i64P : prog.cellsOf 2 = 1 := by kernel_rfl
theorem ce_strP : prog.cellsOf 9 = 1 := by kernel_rfl
theorem opd_tyP {d : Nat} {cs : List TV} (h : TyL prog (d + 2) 51 cs) : ∃ o : Opd, cs = cOpd o := by
 obtain ⟨xs, rfl, k⟩ := tl_st st_opdP h
 cases k with | cons g0 k =>
 cases k with | cons g1 k =>
 cases k with | cons g2 k =>
 cases k with | cons g3 k =>
 cases k
 obtain ⟨a0, rfl, _⟩ := tl_int un_intP g0
 obtain ⟨a1, rfl, _⟩ := tl_int un_intP g1
 obtain ⟨a2, rfl, _⟩ := tl_int un_intP g2
 obtain ⟨a3, rfl, _⟩ := tl_int un_int64P g3
 exact ⟨⟨a0, a1, a2, a3⟩, rfl⟩
theorem ins_tyP {d : Nat} {cs : List TV} (h : TyL prog (d + 3) 54 cs) : ∃ i : Ins, cs = cIns i := by
 obtain ⟨xs, rfl, k⟩ := tl_st st_insP h
 cases k with | cons g0 k =>
 cases k with | cons g1 k =>
 cases k with | cons g2 k =>
 cases k with | cons g3 k =>
 cases k with | cons g4 k =>
 cases k with | cons g5 k =>
 cases k with | cons g6 k =>
 cases k
 obtain ⟨a0, rfl, _⟩ := tl_int un_intP g0
 obtain ⟨a1, rfl⟩ := tl_bool un_boolP g1
 obtain ⟨a2, rfl, _⟩ := tl_int un_intP g2
 obtain ⟨a3, rfl⟩ := opd_tyP g3
 obtain ⟨a4, rfl⟩ := opd_tyP g4
 obtain ⟨a5, rfl, _⟩ := tl_str un_stringP g5
 obtain ⟨xs, rfl, k⟩ := tl_sli un_strsP ce_strP g6
 obtain ⟨l, rfl⟩ := map_of' (c := fun s => [tS s]) fun x hx => let ⟨s, e, _⟩ := tl_str un_stringP (k x hx); ⟨s, e⟩
 exact ⟨⟨a0, a1, a2, a3, a4, a5, l⟩, rfl⟩
theorem sym_tyP {d : Nat} {cs : List TV} (h : TyL prog (d + 3) 45 cs) : ∃ i : Sym, cs = cSym i := by
 obtain ⟨xs, rfl, k⟩ := tl_st st_symP h
 cases k with | cons g0 k =>
 cases k with | cons g1 k =>
 cases k with | cons g2 k =>
 cases k
 obtain ⟨a0, rfl, _⟩ := tl_str un_stringP g0
 obtain ⟨a1, rfl, _⟩ := tl_int un_intP g1
 obtain ⟨xs, rfl, k⟩ := tl_sli un_i64sP ce_i64P g2
 obtain ⟨l, rfl⟩ := map_of' (c := fun s => [tI s]) fun x hx => let ⟨s, e, _⟩ := tl_int un_int64P (k x hx); ⟨s, e⟩
 exact ⟨⟨a0, a1, l⟩, rfl⟩
theorem th_tyP {d : Nat} {cs : List TV} (h : TyL prog (d + 5) 49 cs) : ∃ t : List Ins, cs = cTh t := by
 obtain ⟨xs, rfl, k⟩ := tl_st st_threadP h
 cases k with | cons g0 k =>
 cases k
 obtain ⟨xs, rfl, k⟩ := tl_sli un_inssP ce_insP g0
 obtain ⟨l, rfl⟩ := map_of' (c := cIns) fun x hx => ins_tyP (k x hx)
 exact ⟨l, rfl⟩
theorem prg_tyP {d : Nat} {x : TV} (h : TyV prog (d + 7) x 28) : ∃ p : Prg, x = .agg (cPrg p) := by
 obtain ⟨cs, rfl, m⟩ := tv_agg st_progP h
 obtain ⟨xs, rfl, k⟩ := tl_st st_progP m
 cases k with | cons g0 k =>
 cases k with | cons g1 k =>
 cases k
 obtain ⟨xs, rfl, k⟩ := tl_sli un_symsP ce_symP g0
 obtain ⟨l, rfl⟩ := map_of' (c := cSym) fun x hx => sym_tyP (k x hx)
 obtain ⟨xs, rfl, k⟩ := tl_sli un_thsP ce_thP g1
 obtain ⟨t, rfl⟩ := map_of' (c := cTh) fun x hx => th_tyP (k x hx)
 exact ⟨⟨l, t⟩, rfl⟩
end Go.Proofs.YtnphhelbianjpaaDoor
namespace Go.Proofs.YtnphhelbianjpaaDoor
set_option maxRecDepth 20000
open Go Go.Proofs.YtnphhelbianjpaaDoor.V Go.Proofs
theorem un_ptss : prog.underlying 23 = some (.slice 24) := by kernel_rfl
theorem ce_pts : prog.cellsOf 24 = 1 := by kernel_rfl
theorem ptss_ty {d : Nat} {x : TV} (h : TyV prog (d + 3) x 23) : ∃ l : List (List Int), x = ptR l := by
 obtain ⟨xs, e, k⟩ := tl_sli un_ptss ce_pts (tv_sli un_ptss h)
 cases e
 obtain ⟨l, rfl⟩ := map_of' (c := fun l : List Int => [rwI l]) fun x hx => by
  obtain ⟨ys, rfl, k2⟩ := tl_sli un_ints ce_int (k x hx)
  obtain ⟨l, rfl⟩ := map_of' (c := fun s => [tI s]) fun x hx => let ⟨s, e, _⟩ := tl_int un_int (k2 x hx); ⟨s, e⟩
  exact ⟨l, rfl⟩
 exact ⟨l, rfl⟩
end Go.Proofs.YtnphhelbianjpaaDoor
