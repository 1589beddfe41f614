/-
  Walks of functions of the program, and what the laws need of them.
-/
import Derived.Test.YtmfkngldfphhmaaDoorRNamesA
import Derived.Test.YtmfkngldfphhmaaDoorRGlyphC
import Derived.Test.YtmfkngldfphhmaaDoorRRefSpots
set_option linter.all false
set_option linter.unusedSimpArgs false
set_option linter.unusedVariables false
set_option linter.unnecessarySimpa false
namespace Go.Proofs.YtmfkngldfphhmaaDoor
open Go Go.Proofs.YtmfkngldfphhmaaDoor.V Go.Proofs

def regT (r : Int) : ByteArray := if 0 ≤ r ∧ r < 8 then (regsL[r.toNat]?).getD (bs []) else bs []
def opT (op cond : Int) : ByteArray := if op = 11 ∧ 1 ≤ cond ∧ cond ≤ 10 then (jumpsL[(cond - 1).toNat]?).getD (bs []) else if cond = 0 ∧ 1 ≤ op ∧ op ≤ 14 then (opsL[(op - 1).toNat]?).getD (bs []) else bs []
def okAt (i : Nat) (x : Spot) : Bool := !(x.bad || (!letter x.rune && (decide (i = 0) || !digit x.rune)))
def okAll : Nat → List Spot → Bool
  | _, [] => true
  | i, x :: r => okAt i x && okAll (i + 1) r
def rightB (s : ByteArray) : Bool := okAll 0 (spots s) && decide (1 ≤ (spots s).length ∧ (spots s).length ≤ 16) && !wordB s
theorem okAll_drop {l : List Spot} {i j : Nat} {x : Spot} (h : l[i]? = some x) : okAll j (l.drop i) = (okAt j x && okAll (j + 1) (l.drop (i + 1))) := by
  obtain ⟨hi, rfl⟩ := List.getElem?_eq_some_iff.1 h
  rw [List.drop_eq_getElem_cons hi]; rfl

section
attribute [local irreducible] TwS TwR thenT inBlockT retT idx idxI opOf spots letter digit
variable {G : World → Prop}

theorem pick_spec (n : Int) (m : Nat) (hm : m + 1 < 1000000000) : Pure prog G n_book_Pick [tI n, tI ((m + 1 : Nat) : Int)] (tI (n % ((m + 1 : Nat) : Int))) := by
  refine Pure.of mixedOk (fn := f_book_Pick) rfl (by kernel_rfl) ok_book_Pick rfl fun C hP hG hp => ?_
  simp only [fs_book_Pick, targEnv, Nat.zero_add, Nat.reduceAdd]
  have h1 : (m : Int) + 1 = ((m + 1 : Nat) : Int) := by omega
  have h2 : n.tmod ((m + 1 : Nat) : Int) < 0 → n % ((m + 1 : Nat) : Int) = n.tmod ((m + 1 : Nat) : Int) + ((m + 1 : Nat) : Int) := by
    intro h
    have e1 := Int.emod_emod_of_dvd (n.tmod ((m + 1 : Nat) : Int)) (Int.dvd_refl ((m + 1 : Nat) : Int))
    have e2 : n % ((m + 1 : Nat) : Int) = (n.tmod ((m + 1 : Nat) : Int)) % ((m + 1 : Nat) : Int) := by
      have := Int.mul_tdiv_add_tmod n ((m + 1 : Nat) : Int)
      conv => lhs; rw [← this]
      rw [Int.add_comm, Int.add_mul_emod_self_left]
    have e3 := Int.lt_tmod_of_pos n (show (0 : Int) < ((m + 1 : Nat) : Int) by omega)
    rw [e2, ← Int.add_emod_right]
    exact Int.emod_eq_of_lt (by omega) (by omega)
  have h3 : ¬ n.tmod ((m + 1 : Nat) : Int) < 0 → n % ((m + 1 : Nat) : Int) = n.tmod ((m + 1 : Nat) : Int) := by
    intro h
    have e2 : n % ((m + 1 : Nat) : Int) = (n.tmod ((m + 1 : Nat) : Int)) % ((m + 1 : Nat) : Int) := by
      have := Int.mul_tdiv_add_tmod n ((m + 1 : Nat) : Int)
      conv => lhs; rw [← this]
      rw [Int.add_comm, Int.add_mul_emod_self_left]
    have e3 := Int.tmod_lt_of_pos n (show (0 : Int) < ((m + 1 : Nat) : Int) by omega)
    rw [e2]
    exact Int.emod_eq_of_lt (by omega) (by omega)
  have e3 := Int.lt_tmod_of_pos n (show (0 : Int) < ((m + 1 : Nat) : Int) by omega)
  repeat' (first | refine ts_seq (fun K hK hW => ?_) | refine ts_reg ?_ | refine tr_nil ?_ | refine tr_ev rfl ?_ | refine use_K (by assumption) ?_ | refine tr_guard_u rfl ?_ | refine tr_guard_y rfl rfl ?_ | refine tr_guard_n rfl rfl ?_ | refine tr_alloc rfl ?_ | refine tr_store rfl rfl rfl rfl rfl rfl rfl ?_ | refine ts_cond_t rfl rfl ?_ | refine ts_cond_f rfl rfl ?_ | refine ts_nop ?_ | refine ts_block ?_ | refine ts_exit ?_ | refine ts_ret ?_ | refine th_exit ?_ | refine th_ret ?_ | refine bl_normal ?_ | refine bl_ret ?_ | refine bl_hit ?_ | refine bl_miss rfl ?_ | refine tret_of (.inr rfl) rfl ?_ | (refine tg_split rfl (fun h => ?_) (fun h => ?_) <;> try simp only [decide_eq_true_eq, decide_eq_false_iff_not, Bool.not_eq_true', Bool.not_eq_false', Bool.not_true, Bool.not_false, Bool.not_not, beq_iff_eq, Bool.not_eq_true, Bool.not_eq_false] at h) | (refine ts_cond rfl (fun h => ?_) (fun h => ?_) <;> try simp only [decide_eq_true_eq, decide_eq_false_iff_not, Bool.not_eq_true', Bool.not_eq_false', Bool.not_true, Bool.not_false, Bool.not_not, beq_iff_eq, Bool.not_eq_true, Bool.not_eq_false] at h) | fail)
  · rw [w64 (by omega), h2 h]; exact .fr rfl
  · rw [h3 h]; exact .fr rfl

theorem regText_spec (r : Int) : Pure prog G n_names_RegText [tI r] (tS (regT r)) := by
  refine Pure.of mixedOk (fn := f_names_RegText) rfl (by kernel_rfl) ok_names_RegText rfl fun C hP hG hp => ?_
  simp only [fs_names_RegText, targEnv, Nat.zero_add, Nat.reduceAdd]
  have hlen : regsL.length = 8 := rfl
  by_cases h : 0 ≤ r ∧ r < 8
  · have hg : regsL[r.toNat]? = some regsL[r.toNat] := List.getElem?_eq_getElem (by omega)
    rw [regT, if_pos h, hg, Option.getD_some]
    generalize regsL[r.toNat] = w at hg
    repeat' (first | refine ts_seq (fun K hK hW => ?_) | refine ts_reg ?_ | refine tr_nil ?_ | refine tr_ev rfl ?_ | refine use_K (by assumption) ?_ | refine tr_guard_u rfl ?_ | refine tr_guard_y rfl rfl ?_ | refine tr_guard_n rfl rfl ?_ | refine tr_alloc rfl ?_ | refine tr_store rfl rfl rfl rfl rfl rfl rfl ?_ | refine ts_cond_t rfl rfl ?_ | refine ts_cond_f rfl rfl ?_ | refine ts_nop ?_ | refine ts_block ?_ | refine ts_exit ?_ | refine ts_ret ?_ | refine th_exit ?_ | refine th_ret ?_ | refine bl_normal ?_ | refine bl_ret ?_ | refine bl_hit ?_ | refine bl_miss rfl ?_ | refine tret_of (.inr rfl) rfl ?_ | refine tr_call rfl (by rw [hP]; exact regs_spec) (.inl rfl) ?_ | refine tr_light (tl_ixm (m := r.toNat) rfl rfl (by omega) hg) ?_ | (refine tg_split rfl (fun h => ?_) (fun h => ?_) <;> (try simp only [decide_eq_true_eq, decide_eq_false_iff_not, Bool.not_eq_true', Bool.not_eq_false', Bool.not_true, Bool.not_false, Bool.not_not, beq_iff_eq, Bool.not_eq_true, Bool.not_eq_false] at h) <;> try (exfalso; (first | omega | (simp only [rw1, List.length_map] at h; omega)); done)) | (refine ts_cond rfl (fun h => ?_) (fun h => ?_) <;> (try simp only [decide_eq_true_eq, decide_eq_false_iff_not, Bool.not_eq_true', Bool.not_eq_false', Bool.not_true, Bool.not_false, Bool.not_not, beq_iff_eq, Bool.not_eq_true, Bool.not_eq_false] at h) <;> try (exfalso; (first | omega | (simp only [rw1, List.length_map] at h; omega)); done)) | fail)
    exact .fr rfl
  · rw [regT, if_neg h]
    repeat' (first | refine ts_seq (fun K hK hW => ?_) | refine ts_reg ?_ | refine tr_nil ?_ | refine tr_ev rfl ?_ | refine use_K (by assumption) ?_ | refine tr_guard_u rfl ?_ | refine tr_guard_y rfl rfl ?_ | refine tr_guard_n rfl rfl ?_ | refine tr_alloc rfl ?_ | refine tr_store rfl rfl rfl rfl rfl rfl rfl ?_ | refine ts_cond_t rfl rfl ?_ | refine ts_cond_f rfl rfl ?_ | refine ts_nop ?_ | refine ts_block ?_ | refine ts_exit ?_ | refine ts_ret ?_ | refine th_exit ?_ | refine th_ret ?_ | refine bl_normal ?_ | refine bl_ret ?_ | refine bl_hit ?_ | refine bl_miss rfl ?_ | refine tret_of (.inr rfl) rfl ?_ | refine tr_call rfl (by rw [hP]; exact regs_spec) (.inl rfl) ?_ | (refine tg_split rfl (fun h => ?_) (fun h => ?_) <;> (try simp only [decide_eq_true_eq, decide_eq_false_iff_not, Bool.not_eq_true', Bool.not_eq_false', Bool.not_true, Bool.not_false, Bool.not_not, beq_iff_eq, Bool.not_eq_true, Bool.not_eq_false] at h) <;> try (exfalso; (first | omega | (simp only [rw1, List.length_map] at h; omega)); done)) | (refine ts_cond rfl (fun h => ?_) (fun h => ?_) <;> (try simp only [decide_eq_true_eq, decide_eq_false_iff_not, Bool.not_eq_true', Bool.not_eq_false', Bool.not_true, Bool.not_false, Bool.not_not, beq_iff_eq, Bool.not_eq_true, Bool.not_eq_false] at h) <;> try (exfalso; (first | omega | (simp only [rw1, List.length_map] at h; omega)); done)) | fail)
    all_goals exact .fr rfl
theorem regText_spec2 (r : Int) : Pure prog G n_ref1_RegText [tI r] (tS (regT r)) := by
  refine Pure.of mixedOk (fn := f_ref1_RegText) rfl (by kernel_rfl) ok_ref1_RegText rfl fun C hP hG hp => ?_
  simp only [fs_ref1_RegText, targEnv, Nat.zero_add, Nat.reduceAdd]
  have hlen : regsL.length = 8 := rfl
  by_cases h : 0 ≤ r ∧ r < 8
  · have hg : regsL[r.toNat]? = some regsL[r.toNat] := List.getElem?_eq_getElem (by omega)
    rw [regT, if_pos h, hg, Option.getD_some]
    generalize regsL[r.toNat] = w at hg
    repeat' (first | refine ts_seq (fun K hK hW => ?_) | refine ts_reg ?_ | refine tr_nil ?_ | refine tr_ev rfl ?_ | refine use_K (by assumption) ?_ | refine tr_guard_u rfl ?_ | refine tr_guard_y rfl rfl ?_ | refine tr_guard_n rfl rfl ?_ | refine tr_alloc rfl ?_ | refine tr_store rfl rfl rfl rfl rfl rfl rfl ?_ | refine ts_cond_t rfl rfl ?_ | refine ts_cond_f rfl rfl ?_ | refine ts_nop ?_ | refine ts_block ?_ | refine ts_exit ?_ | refine ts_ret ?_ | refine th_exit ?_ | refine th_ret ?_ | refine bl_normal ?_ | refine bl_ret ?_ | refine bl_hit ?_ | refine bl_miss rfl ?_ | refine tret_of (.inr rfl) rfl ?_ | refine tr_call rfl (by rw [hP]; exact regs_spec2) (.inl rfl) ?_ | refine tr_light (tl_ixm (m := r.toNat) rfl rfl (by omega) hg) ?_ | (refine tg_split rfl (fun h => ?_) (fun h => ?_) <;> (try simp only [decide_eq_true_eq, decide_eq_false_iff_not, Bool.not_eq_true', Bool.not_eq_false', Bool.not_true, Bool.not_false, Bool.not_not, beq_iff_eq, Bool.not_eq_true, Bool.not_eq_false] at h) <;> try (exfalso; omega; done)) | (refine ts_cond rfl (fun h => ?_) (fun h => ?_) <;> (try simp only [decide_eq_true_eq, decide_eq_false_iff_not, Bool.not_eq_true', Bool.not_eq_false', Bool.not_true, Bool.not_false, Bool.not_not, beq_iff_eq, Bool.not_eq_true, Bool.not_eq_false] at h) <;> try (exfalso; omega; done)) | fail)
    exact .fr rfl
  · rw [regT, if_neg h]
    repeat' (first | refine ts_seq (fun K hK hW => ?_) | refine ts_reg ?_ | refine tr_nil ?_ | refine tr_ev rfl ?_ | refine use_K (by assumption) ?_ | refine tr_guard_u rfl ?_ | refine tr_guard_y rfl rfl ?_ | refine tr_guard_n rfl rfl ?_ | refine tr_alloc rfl ?_ | refine tr_store rfl rfl rfl rfl rfl rfl rfl ?_ | refine ts_cond_t rfl rfl ?_ | refine ts_cond_f rfl rfl ?_ | refine ts_nop ?_ | refine ts_block ?_ | refine ts_exit ?_ | refine ts_ret ?_ | refine th_exit ?_ | refine th_ret ?_ | refine bl_normal ?_ | refine bl_ret ?_ | refine bl_hit ?_ | refine bl_miss rfl ?_ | refine tret_of (.inr rfl) rfl ?_ | refine tr_call rfl (by rw [hP]; exact regs_spec2) (.inl rfl) ?_ | (refine tg_split rfl (fun h => ?_) (fun h => ?_) <;> (try simp only [decide_eq_true_eq, decide_eq_false_iff_not, Bool.not_eq_true', Bool.not_eq_false', Bool.not_true, Bool.not_false, Bool.not_not, beq_iff_eq, Bool.not_eq_true, Bool.not_eq_false] at h) <;> try (exfalso; omega; done)) | (refine ts_cond rfl (fun h => ?_) (fun h => ?_) <;> (try simp only [decide_eq_true_eq, decide_eq_false_iff_not, Bool.not_eq_true', Bool.not_eq_false', Bool.not_true, Bool.not_false, Bool.not_not, beq_iff_eq, Bool.not_eq_true, Bool.not_eq_false] at h) <;> try (exfalso; omega; done)) | fail)
    all_goals exact .fr rfl

theorem opText_spec (op cond : Int) : Pure prog G n_names_OpText [tI op, tI cond] (tS (opT op cond)) := by
  refine Pure.of mixedOk (fn := f_names_OpText) rfl (by kernel_rfl) ok_names_OpText rfl fun C hP hG hp => ?_
  simp only [fs_names_OpText, targEnv, Nat.zero_add, Nat.reduceAdd]
  have hl1 : jumpsL.length = 10 := rfl
  have hl2 : opsL.length = 14 := rfl
  have hl3 : (((rw1 jumpsL).length : Nat) : Int) = 10 := rfl
  have hl4 : (((rw1 opsL).length : Nat) : Int) = 14 := rfl
  by_cases h1 : op = 11 ∧ 1 ≤ cond ∧ cond ≤ 10
  · have hg : jumpsL[(cond - 1).toNat]? = some jumpsL[(cond - 1).toNat] := List.getElem?_eq_getElem (by omega)
    rw [opT, if_pos h1, hg, Option.getD_some]
    generalize jumpsL[(cond - 1).toNat] = w at hg
    repeat' (first | refine ts_seq (fun K hK hW => ?_) | refine ts_reg ?_ | refine tr_nil ?_ | refine tr_ev rfl ?_ | refine use_K (by assumption) ?_ | refine tr_guard_u rfl ?_ | refine tr_guard_y rfl rfl ?_ | refine tr_guard_n rfl rfl ?_ | refine tr_alloc rfl ?_ | refine tr_store rfl rfl rfl rfl rfl rfl rfl ?_ | refine ts_cond_t rfl rfl ?_ | refine ts_cond_f rfl rfl ?_ | refine ts_nop ?_ | refine ts_block ?_ | refine ts_exit ?_ | refine ts_ret ?_ | refine th_exit ?_ | refine th_ret ?_ | refine bl_normal ?_ | refine bl_ret ?_ | refine bl_hit ?_ | refine bl_miss rfl ?_ | refine tret_of (.inr rfl) rfl ?_ | refine tr_call rfl (by rw [hP]; exact jumps_spec) (.inl rfl) ?_ | refine tr_call rfl (by rw [hP]; exact ops_spec) (.inl rfl) ?_ | refine tr_light (tl_ixm (m := (cond - 1).toNat) rfl rfl (by rw [w64 (by omega)]; omega) hg) ?_ | (refine tg_split rfl (fun h => ?_) (fun h => ?_) <;> (try simp only [decide_eq_true_eq, decide_eq_false_iff_not, Bool.not_eq_true', Bool.not_eq_false', Bool.not_true, Bool.not_false, Bool.not_not, beq_iff_eq, Bool.not_eq_true, Bool.not_eq_false] at h) <;> try (exfalso; omega; done)) | (refine ts_cond rfl (fun h => ?_) (fun h => ?_) <;> (try simp only [decide_eq_true_eq, decide_eq_false_iff_not, Bool.not_eq_true', Bool.not_eq_false', Bool.not_true, Bool.not_false, Bool.not_not, beq_iff_eq, Bool.not_eq_true, Bool.not_eq_false] at h) <;> try (exfalso; omega; done)) | fail)
    exact .fr rfl
  · rw [opT, if_neg h1]
    by_cases h2 : cond = 0 ∧ 1 ≤ op ∧ op ≤ 14
    · have hg : opsL[(op - 1).toNat]? = some opsL[(op - 1).toNat] := List.getElem?_eq_getElem (by omega)
      rw [if_pos h2, hg, Option.getD_some]
      generalize opsL[(op - 1).toNat] = w at hg
      repeat' (first | refine ts_seq (fun K hK hW => ?_) | refine ts_reg ?_ | refine tr_nil ?_ | refine tr_ev rfl ?_ | refine use_K (by assumption) ?_ | refine tr_guard_u rfl ?_ | refine tr_guard_y rfl rfl ?_ | refine tr_guard_n rfl rfl ?_ | refine tr_alloc rfl ?_ | refine tr_store rfl rfl rfl rfl rfl rfl rfl ?_ | refine ts_cond_t rfl rfl ?_ | refine ts_cond_f rfl rfl ?_ | refine ts_nop ?_ | refine ts_block ?_ | refine ts_exit ?_ | refine ts_ret ?_ | refine th_exit ?_ | refine th_ret ?_ | refine bl_normal ?_ | refine bl_ret ?_ | refine bl_hit ?_ | refine bl_miss rfl ?_ | refine tret_of (.inr rfl) rfl ?_ | refine tr_call rfl (by rw [hP]; exact jumps_spec) (.inl rfl) ?_ | refine tr_call rfl (by rw [hP]; exact ops_spec) (.inl rfl) ?_ | refine tr_light (tl_ixm (m := (op - 1).toNat) rfl rfl (by rw [w64 (by omega)]; omega) hg) ?_ | (refine tg_split rfl (fun h => ?_) (fun h => ?_) <;> (try simp only [decide_eq_true_eq, decide_eq_false_iff_not, Bool.not_eq_true', Bool.not_eq_false', Bool.not_true, Bool.not_false, Bool.not_not, beq_iff_eq, Bool.not_eq_true, Bool.not_eq_false] at h) <;> try (exfalso; omega; done)) | (refine ts_cond rfl (fun h => ?_) (fun h => ?_) <;> (try simp only [decide_eq_true_eq, decide_eq_false_iff_not, Bool.not_eq_true', Bool.not_eq_false', Bool.not_true, Bool.not_false, Bool.not_not, beq_iff_eq, Bool.not_eq_true, Bool.not_eq_false] at h) <;> try (exfalso; omega; done)) | fail)
      all_goals exact .fr rfl
    · rw [if_neg h2]
      repeat' (first | refine ts_seq (fun K hK hW => ?_) | refine ts_reg ?_ | refine tr_nil ?_ | refine tr_ev rfl ?_ | refine use_K (by assumption) ?_ | refine tr_guard_u rfl ?_ | refine tr_guard_y rfl rfl ?_ | refine tr_guard_n rfl rfl ?_ | refine tr_alloc rfl ?_ | refine tr_store rfl rfl rfl rfl rfl rfl rfl ?_ | refine ts_cond_t rfl rfl ?_ | refine ts_cond_f rfl rfl ?_ | refine ts_nop ?_ | refine ts_block ?_ | refine ts_exit ?_ | refine ts_ret ?_ | refine th_exit ?_ | refine th_ret ?_ | refine bl_normal ?_ | refine bl_ret ?_ | refine bl_hit ?_ | refine bl_miss rfl ?_ | refine tret_of (.inr rfl) rfl ?_ | refine tr_call rfl (by rw [hP]; exact jumps_spec) (.inl rfl) ?_ | refine tr_call rfl (by rw [hP]; exact ops_spec) (.inl rfl) ?_ | (refine tg_split rfl (fun h => ?_) (fun h => ?_) <;> (try simp only [decide_eq_true_eq, decide_eq_false_iff_not, Bool.not_eq_true', Bool.not_eq_false', Bool.not_true, Bool.not_false, Bool.not_not, beq_iff_eq, Bool.not_eq_true, Bool.not_eq_false] at h) <;> try (exfalso; omega; done)) | (refine ts_cond rfl (fun h => ?_) (fun h => ?_) <;> (try simp only [decide_eq_true_eq, decide_eq_false_iff_not, Bool.not_eq_true', Bool.not_eq_false', Bool.not_true, Bool.not_false, Bool.not_not, beq_iff_eq, Bool.not_eq_true, Bool.not_eq_false] at h) <;> try (exfalso; omega; done)) | fail)
      all_goals exact .fr rfl
theorem opText_spec2 (op cond : Int) : Pure prog G n_ref1_OpText [tI op, tI cond] (tS (opT op cond)) := by
  refine Pure.of mixedOk (fn := f_ref1_OpText) rfl (by kernel_rfl) ok_ref1_OpText rfl fun C hP hG hp => ?_
  simp only [fs_ref1_OpText, targEnv, Nat.zero_add, Nat.reduceAdd]
  have hl1 : jumpsL.length = 10 := rfl
  have hl2 : opsL.length = 14 := rfl
  by_cases h1 : op = 11 ∧ 1 ≤ cond ∧ cond ≤ 10
  · have hg : jumpsL[(cond - 1).toNat]? = some jumpsL[(cond - 1).toNat] := List.getElem?_eq_getElem (by omega)
    rw [opT, if_pos h1, hg, Option.getD_some]
    generalize jumpsL[(cond - 1).toNat] = w at hg
    have hg2 : (bs [] :: jumpsL)[cond.toNat]? = some w := by rw [show cond.toNat = (cond - 1).toNat + 1 by omega, List.getElem?_cons_succ, hg]
    repeat' (first | refine ts_seq (fun K hK hW => ?_) | refine ts_reg ?_ | refine tr_nil ?_ | refine tr_ev rfl ?_ | refine use_K (by assumption) ?_ | refine tr_guard_u rfl ?_ | refine tr_guard_y rfl rfl ?_ | refine tr_guard_n rfl rfl ?_ | refine tr_alloc rfl ?_ | refine tr_store rfl rfl rfl rfl rfl rfl rfl ?_ | refine ts_cond_t rfl rfl ?_ | refine ts_cond_f rfl rfl ?_ | refine ts_nop ?_ | refine ts_block ?_ | refine ts_exit ?_ | refine ts_ret ?_ | refine th_exit ?_ | refine th_ret ?_ | refine bl_normal ?_ | refine bl_ret ?_ | refine bl_hit ?_ | refine bl_miss rfl ?_ | refine tret_of (.inr rfl) rfl ?_ | refine tr_call rfl (by rw [hP]; exact conds_spec) (.inl rfl) ?_ | refine tr_call rfl (by rw [hP]; exact ops_spec2) (.inl rfl) ?_ | refine tr_light (tl_ixm (m := cond.toNat) rfl rfl (by omega) hg2) ?_ | (refine tg_split rfl (fun h => ?_) (fun h => ?_) <;> (try simp only [decide_eq_true_eq, decide_eq_false_iff_not, Bool.not_eq_true', Bool.not_eq_false', Bool.not_true, Bool.not_false, Bool.not_not, beq_iff_eq, Bool.not_eq_true, Bool.not_eq_false] at h) <;> try (exfalso; omega; done)) | (refine ts_cond rfl (fun h => ?_) (fun h => ?_) <;> (try simp only [decide_eq_true_eq, decide_eq_false_iff_not, Bool.not_eq_true', Bool.not_eq_false', Bool.not_true, Bool.not_false, Bool.not_not, beq_iff_eq, Bool.not_eq_true, Bool.not_eq_false] at h) <;> try (exfalso; omega; done)) | fail)
    exact .fr rfl
  · rw [opT, if_neg h1]
    by_cases h2 : cond = 0 ∧ 1 ≤ op ∧ op ≤ 14
    · have hg : opsL[(op - 1).toNat]? = some opsL[(op - 1).toNat] := List.getElem?_eq_getElem (by omega)
      rw [if_pos h2, hg, Option.getD_some]
      generalize opsL[(op - 1).toNat] = w at hg
      have hg2 : (bs [] :: opsL)[op.toNat]? = some w := by rw [show op.toNat = (op - 1).toNat + 1 by omega, List.getElem?_cons_succ, hg]
      repeat' (first | refine ts_seq (fun K hK hW => ?_) | refine ts_reg ?_ | refine tr_nil ?_ | refine tr_ev rfl ?_ | refine use_K (by assumption) ?_ | refine tr_guard_u rfl ?_ | refine tr_guard_y rfl rfl ?_ | refine tr_guard_n rfl rfl ?_ | refine tr_alloc rfl ?_ | refine tr_store rfl rfl rfl rfl rfl rfl rfl ?_ | refine ts_cond_t rfl rfl ?_ | refine ts_cond_f rfl rfl ?_ | refine ts_nop ?_ | refine ts_block ?_ | refine ts_exit ?_ | refine ts_ret ?_ | refine th_exit ?_ | refine th_ret ?_ | refine bl_normal ?_ | refine bl_ret ?_ | refine bl_hit ?_ | refine bl_miss rfl ?_ | refine tret_of (.inr rfl) rfl ?_ | refine tr_call rfl (by rw [hP]; exact conds_spec) (.inl rfl) ?_ | refine tr_call rfl (by rw [hP]; exact ops_spec2) (.inl rfl) ?_ | refine tr_light (tl_ixm (m := op.toNat) rfl rfl (by omega) hg2) ?_ | (refine tg_split rfl (fun h => ?_) (fun h => ?_) <;> (try simp only [decide_eq_true_eq, decide_eq_false_iff_not, Bool.not_eq_true', Bool.not_eq_false', Bool.not_true, Bool.not_false, Bool.not_not, beq_iff_eq, Bool.not_eq_true, Bool.not_eq_false] at h) <;> try (exfalso; omega; done)) | (refine ts_cond rfl (fun h => ?_) (fun h => ?_) <;> (try simp only [decide_eq_true_eq, decide_eq_false_iff_not, Bool.not_eq_true', Bool.not_eq_false', Bool.not_true, Bool.not_false, Bool.not_not, beq_iff_eq, Bool.not_eq_true, Bool.not_eq_false] at h) <;> try (exfalso; omega; done)) | fail)
      all_goals exact .fr rfl
    · rw [if_neg h2]
      repeat' (first | refine ts_seq (fun K hK hW => ?_) | refine ts_reg ?_ | refine tr_nil ?_ | refine tr_ev rfl ?_ | refine use_K (by assumption) ?_ | refine tr_guard_u rfl ?_ | refine tr_guard_y rfl rfl ?_ | refine tr_guard_n rfl rfl ?_ | refine tr_alloc rfl ?_ | refine tr_store rfl rfl rfl rfl rfl rfl rfl ?_ | refine ts_cond_t rfl rfl ?_ | refine ts_cond_f rfl rfl ?_ | refine ts_nop ?_ | refine ts_block ?_ | refine ts_exit ?_ | refine ts_ret ?_ | refine th_exit ?_ | refine th_ret ?_ | refine bl_normal ?_ | refine bl_ret ?_ | refine bl_hit ?_ | refine bl_miss rfl ?_ | refine tret_of (.inr rfl) rfl ?_ | refine tr_call rfl (by rw [hP]; exact conds_spec) (.inl rfl) ?_ | refine tr_call rfl (by rw [hP]; exact ops_spec2) (.inl rfl) ?_ | (refine tg_split rfl (fun h => ?_) (fun h => ?_) <;> (try simp only [decide_eq_true_eq, decide_eq_false_iff_not, Bool.not_eq_true', Bool.not_eq_false', Bool.not_true, Bool.not_false, Bool.not_not, beq_iff_eq, Bool.not_eq_true, Bool.not_eq_false] at h) <;> try (exfalso; omega; done)) | (refine ts_cond rfl (fun h => ?_) (fun h => ?_) <;> (try simp only [decide_eq_true_eq, decide_eq_false_iff_not, Bool.not_eq_true', Bool.not_eq_false', Bool.not_true, Bool.not_false, Bool.not_not, beq_iff_eq, Bool.not_eq_true, Bool.not_eq_false] at h) <;> try (exfalso; omega; done)) | fail)
      all_goals exact .fr rfl
end
end Go.Proofs.YtmfkngldfphhmaaDoor
