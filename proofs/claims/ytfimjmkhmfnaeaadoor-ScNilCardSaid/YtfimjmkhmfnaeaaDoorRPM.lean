/-
  Walks of functions of the program, and what the laws need of them.
-/
import Derived.Test.YtfimjmkhmfnaeaaDoorRPG
set_option linter.all false
set_option linter.unusedSimpArgs false
set_option linter.unusedVariables false
set_option linter.unnecessarySimpa false
namespace Go.Proofs.YtfimjmkhmfnaeaaDoor
set_option maxRecDepth 20000
open Go Go.Proofs.YtfimjmkhmfnaeaaDoor.V Go.Proofs
theorem st_progP : (prog.underlying ty_api_Prog).bind stTys = some [ty_sl_api_Sym, ty_sl_api_Thread] := by kernel_rfl
theorem st_symP : (prog.underlying ty_api_Sym).bind stTys = some [ty_string, ty_int, ty_sl_int64] := by kernel_rfl
theorem st_threadP : (prog.underlying ty_api_Thread).bind stTys = some [ty_sl_api_Ins] := by kernel_rfl
theorem st_insP : (prog.underlying ty_api_Ins).bind stTys = some [ty_int, ty_bool, ty_int, ty_api_Opd, ty_api_Opd, ty_string, ty_sl_string] := by kernel_rfl
theorem st_opdP : (prog.underlying ty_api_Opd).bind stTys = some [ty_int, ty_int, ty_int, ty_int64] := by kernel_rfl
theorem un_intP : prog.underlying ty_int = some (.int .i64) := by kernel_rfl
theorem un_int64P : prog.underlying ty_int64 = some (.int .i64) := by kernel_rfl
theorem un_boolP : prog.underlying ty_bool = some .bool := by kernel_rfl
theorem un_stringP : prog.underlying ty_string = some .string := by kernel_rfl
theorem un_symsP : prog.underlying ty_sl_api_Sym = some (.slice ty_api_Sym) := by kernel_rfl
theorem un_thsP : prog.underlying ty_sl_api_Thread = some (.slice ty_api_Thread) := by kernel_rfl
theorem un_inssP : prog.underlying ty_sl_api_Ins = some (.slice ty_api_Ins) := by kernel_rfl
theorem un_i64sP : prog.underlying ty_sl_int64 = some (.slice ty_int64) := by kernel_rfl
theorem un_strsP : prog.underlying ty_sl_string = some (.slice ty_string) := by kernel_rfl
theorem ce_symP : prog.cellsOf ty_api_Sym = 3 := by kernel_rfl
theorem ce_thP : prog.cellsOf ty_api_Thread = 1 := by kernel_rfl
theorem ce_insP : prog.cellsOf ty_api_Ins = 13 := by kernel_rfl
theorem ce_i64P : prog.cellsOf ty_int64 = 1 := by kernel_rfl
theorem ce_strP : prog.cellsOf ty_string = 1 := by kernel_rfl
theorem opd_tyP {d : Nat} {cs : List TV} (h : TyL prog (d + 2) ty_api_Opd cs) : ∃ o : Opd, cs = cOpd o := by
  obtain ⟨xs, rfl, k⟩ := tl_st st_opdP h
  cases k with | cons g0 k =>
  cases k with | cons g1 k =>
  cases k with | cons g2 k =>
  cases k with | cons g3 k =>
  cases k
  obtain ⟨a0, rfl, _⟩ := tl_int un_intP g0
  obtain ⟨a1, rfl, _⟩ := tl_int un_intP g1
  obtain ⟨a2, rfl, _⟩ := tl_int un_intP g2
  obtain ⟨a3, rfl, _⟩ := tl_int un_int64P g3
  exact ⟨⟨a0, a1, a2, a3⟩, rfl⟩
theorem ins_tyP {d : Nat} {cs : List TV} (h : TyL prog (d + 3) ty_api_Ins cs) : ∃ i : Ins, cs = cIns i := by
  obtain ⟨xs, rfl, k⟩ := tl_st st_insP h
  cases k with | cons g0 k =>
  cases k with | cons g1 k =>
  cases k with | cons g2 k =>
  cases k with | cons g3 k =>
  cases k with | cons g4 k =>
  cases k with | cons g5 k =>
  cases k with | cons g6 k =>
  cases k
  obtain ⟨a0, rfl, _⟩ := tl_int un_intP g0
  obtain ⟨a1, rfl⟩ := tl_bool un_boolP g1
  obtain ⟨a2, rfl, _⟩ := tl_int un_intP g2
  obtain ⟨a3, rfl⟩ := opd_tyP g3
  obtain ⟨a4, rfl⟩ := opd_tyP g4
  obtain ⟨a5, rfl, _⟩ := tl_str un_stringP g5
  obtain ⟨xs, rfl, k⟩ := tl_sli un_strsP ce_strP g6
  obtain ⟨l, rfl⟩ := map_of' (c := fun s => [tS s]) fun x hx => let ⟨s, e, _⟩ := tl_str un_stringP (k x hx); ⟨s, e⟩
  exact ⟨⟨a0, a1, a2, a3, a4, a5, l⟩, rfl⟩
theorem sym_tyP {d : Nat} {cs : List TV} (h : TyL prog (d + 3) ty_api_Sym cs) : ∃ i : Sym, cs = cSym i := by
  obtain ⟨xs, rfl, k⟩ := tl_st st_symP h
  cases k with | cons g0 k =>
  cases k with | cons g1 k =>
  cases k with | cons g2 k =>
  cases k
  obtain ⟨a0, rfl, _⟩ := tl_str un_stringP g0
  obtain ⟨a1, rfl, _⟩ := tl_int un_intP g1
  obtain ⟨xs, rfl, k⟩ := tl_sli un_i64sP ce_i64P g2
  obtain ⟨l, rfl⟩ := map_of' (c := fun s => [tI s]) fun x hx => let ⟨s, e, _⟩ := tl_int un_int64P (k x hx); ⟨s, e⟩
  exact ⟨⟨a0, a1, l⟩, rfl⟩
theorem th_tyP {d : Nat} {cs : List TV} (h : TyL prog (d + 5) ty_api_Thread cs) : ∃ t : List Ins, cs = cTh t := by
  obtain ⟨xs, rfl, k⟩ := tl_st st_threadP h
  cases k with | cons g0 k =>
  cases k
  obtain ⟨xs, rfl, k⟩ := tl_sli un_inssP ce_insP g0
  obtain ⟨l, rfl⟩ := map_of' (c := cIns) fun x hx => ins_tyP (k x hx)
  exact ⟨l, rfl⟩
theorem prg_tyP {d : Nat} {x : TV} (h : TyV prog (d + 7) x ty_api_Prog) : ∃ p : Prg, x = .agg (cPrg p) := by
  obtain ⟨cs, rfl, m⟩ := tv_agg st_progP h
  obtain ⟨xs, rfl, k⟩ := tl_st st_progP m
  cases k with | cons g0 k =>
  cases k with | cons g1 k =>
  cases k
  obtain ⟨xs, rfl, k⟩ := tl_sli un_symsP ce_symP g0
  obtain ⟨l, rfl⟩ := map_of' (c := cSym) fun x hx => sym_tyP (k x hx)
  obtain ⟨xs, rfl, k⟩ := tl_sli un_thsP ce_thP g1
  obtain ⟨t, rfl⟩ := map_of' (c := cTh) fun x hx => th_tyP (k x hx)
  exact ⟨⟨l, t⟩, rfl⟩
end Go.Proofs.YtfimjmkhmfnaeaaDoor
