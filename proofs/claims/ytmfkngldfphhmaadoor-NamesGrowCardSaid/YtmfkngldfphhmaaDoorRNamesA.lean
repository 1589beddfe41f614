/-
  Walks of functions of the program, and what the laws need of them.
-/
import Derived.Test.YtmfkngldfphhmaaDoorRBook
set_option linter.all false
set_option linter.unusedSimpArgs false
set_option linter.unusedVariables false
set_option linter.unnecessarySimpa false
namespace Go.Proofs.YtmfkngldfphhmaaDoor
open Go Go.Proofs.YtmfkngldfphhmaaDoor.V Go.Proofs

def rw1 (l : List ByteArray) : List (List TV) := l.map fun s => [tS s]
def regsL : List ByteArray := [bs [114, 97, 120], bs [114, 98, 120], bs [114, 99, 120], bs [114, 100, 120], bs [114, 115, 105], bs [114, 100, 105], bs [114, 56], bs [114, 57]]
def opsL : List ByteArray := [bs [109, 111, 118], bs [97, 100, 100], bs [115, 117, 98], bs [97, 110, 100], bs [111, 114], bs [120, 111, 114], bs [99, 109, 112], bs [120, 99, 104, 103], bs [99, 109, 112, 120, 99, 104, 103], bs [106, 109, 112], bs [], bs [109, 102, 101, 110, 99, 101], bs [110, 111, 112], bs [104, 108, 116]]
def jumpsL : List ByteArray := [bs [106, 101], bs [106, 110, 101], bs [106, 108], bs [106, 108, 101], bs [106, 103], bs [106, 103, 101], bs [106, 98], bs [106, 98, 101], bs [106, 97], bs [106, 97, 101]]

/-- Where a text stands. -/
def idx : List ByteArray → ByteArray → Option Nat
  | [], _ => none
  | a :: r, s => if a = s then some 0 else (idx r s).map (· + 1)
def idxI (l : List ByteArray) (s : ByteArray) : Int := match idx l s with
  | some i => (i : Int)
  | none => -1
theorem idx_some : ∀ {l : List ByteArray} {s : ByteArray} {i : Nat}, l[i]? = some s → (∀ (j : Nat) (w : ByteArray), j < i → l[j]? = some w → w ≠ s) → idx l s = some i
  | [], _, _, h, _ => by simp at h
  | a :: r, s, 0, h, _ => by simp at h; simp [idx, h]
  | a :: r, s, i + 1, h, hn => by
    have h0 := hn 0 a (by omega) rfl
    rw [idx, if_neg h0, idx_some (i := i) (by simpa using h) fun j w hj hw => hn (j + 1) w (by omega) (by simpa using hw)]; rfl
theorem idx_none : ∀ {l : List ByteArray} {s : ByteArray}, (∀ (j : Nat) (w : ByteArray), l[j]? = some w → w ≠ s) → idx l s = none
  | [], _, _ => rfl
  | a :: r, s, hn => by
    rw [idx, if_neg (hn 0 a rfl), idx_none fun j w hw => hn (j + 1) w (by simpa using hw)]; rfl
theorem idx_get : ∀ {l : List ByteArray} {s : ByteArray} {i : Nat}, idx l s = some i → l[i]? = some s
  | [], _, _, h => by cases h
  | a :: r, s, i, h => by
    rw [idx] at h
    split at h
    · cases h; rename_i e; subst e; rfl
    · cases hr : idx r s with
      | none => rw [hr] at h; cases h
      | some k => rw [hr] at h; cases h; simpa using idx_get hr
theorem idxI_some {l : List ByteArray} {s : ByteArray} {i : Nat} (h : idx l s = some i) : idxI l s = i := by rw [idxI, h]
theorem idxI_none {l : List ByteArray} {s : ByteArray} (h : idx l s = none) : idxI l s = -1 := by rw [idxI, h]
theorem idx_cons {a s : ByteArray} {r : List ByteArray} (h : a ≠ s) : idx (a :: r) s = (idx r s).map (· + 1) := by rw [idx, if_neg h]

def opOf (s : ByteArray) : Int × Int × Bool := if s = bs [] then (0, 0, false) else match idx opsL s with
  | some i => ((i : Int) + 1, 0, true)
  | none => match idx jumpsL s with
    | some i => (11, (i : Int) + 1, true)
    | none => (0, 0, false)
theorem op_nil : opOf (bs []) = (0, 0, false) := by rw [opOf, if_pos rfl]
theorem op_some {s : ByteArray} {i : Nat} (h0 : s ≠ bs []) (h : idx opsL s = some i) : opOf s = ((i : Int) + 1, 0, true) := by rw [opOf, if_neg h0, h]
theorem op_jump {s : ByteArray} {i : Nat} (h0 : s ≠ bs []) (h : idx opsL s = none) (h' : idx jumpsL s = some i) : opOf s = (11, (i : Int) + 1, true) := by rw [opOf, if_neg h0, h]; simp only; rw [h']
theorem op_none {s : ByteArray} (h : idx opsL s = none) (h' : idx jumpsL s = none) : opOf s = (0, 0, false) := by
  rw [opOf]; split
  · rfl
  · rw [h]; simp only; rw [h']
def wordB (s : ByteArray) : Bool := decide (s = bs [115, 121, 109]) || decide (s = bs [116, 104, 114, 101, 97, 100]) || decide (s = bs [108, 111, 99, 107]) || (idx regsL s).isSome || (opOf s).2.2

section
attribute [local irreducible] TwS TwR thenT inBlockT retT idx
variable {G : World → Prop}

theorem regs_spec : Pure prog G n_names_regs [] (.lst 1 (rw1 regsL)) := by
  refine Pure.of mixedOk (fn := f_names_regs) rfl (by kernel_rfl) ok_names_regs rfl fun C hP hG hp => ?_
  simp only [fs_names_regs, targEnv, Nat.zero_add, Nat.reduceAdd]
  repeat' (first | refine ts_seq (fun K hK hW => ?_) | refine ts_reg ?_ | refine tr_nil ?_ | refine tr_ev rfl ?_ | refine use_K (by assumption) ?_ | refine tr_guard_u rfl ?_ | refine tr_guard_y rfl rfl ?_ | refine tr_guard_n rfl rfl ?_ | refine tr_alloc rfl ?_ | refine tr_store rfl rfl rfl rfl rfl rfl rfl ?_ | refine ts_cond_t rfl rfl ?_ | refine ts_cond_f rfl rfl ?_ | refine ts_nop ?_ | refine ts_block ?_ | refine ts_exit ?_ | refine ts_ret ?_ | refine th_exit ?_ | refine th_ret ?_ | refine bl_normal ?_ | refine bl_ret ?_ | refine bl_hit ?_ | refine bl_miss rfl ?_ | refine tret_of (.inr rfl) rfl ?_ | fail)
  exact .s _ _ _ _ _ _ rfl rfl
theorem regs_spec2 : Pure prog G n_ref1_Regs [] (.lst 1 (rw1 regsL)) := by
  refine Pure.of mixedOk (fn := f_ref1_Regs) rfl (by kernel_rfl) ok_ref1_Regs rfl fun C hP hG hp => ?_
  simp only [fs_ref1_Regs, targEnv, Nat.zero_add, Nat.reduceAdd]
  repeat' (first | refine ts_seq (fun K hK hW => ?_) | refine ts_reg ?_ | refine tr_nil ?_ | refine tr_ev rfl ?_ | refine use_K (by assumption) ?_ | refine tr_guard_u rfl ?_ | refine tr_guard_y rfl rfl ?_ | refine tr_guard_n rfl rfl ?_ | refine tr_alloc rfl ?_ | refine tr_store rfl rfl rfl rfl rfl rfl rfl ?_ | refine ts_cond_t rfl rfl ?_ | refine ts_cond_f rfl rfl ?_ | refine ts_nop ?_ | refine ts_block ?_ | refine ts_exit ?_ | refine ts_ret ?_ | refine th_exit ?_ | refine th_ret ?_ | refine bl_normal ?_ | refine bl_ret ?_ | refine bl_hit ?_ | refine bl_miss rfl ?_ | refine tret_of (.inr rfl) rfl ?_ | fail)
  exact .s _ _ _ _ _ _ rfl rfl
theorem ops_spec : Pure prog G n_names_ops [] (.lst 1 (rw1 opsL)) := by
  refine Pure.of mixedOk (fn := f_names_ops) rfl (by kernel_rfl) ok_names_ops rfl fun C hP hG hp => ?_
  simp only [fs_names_ops, targEnv, Nat.zero_add, Nat.reduceAdd]
  repeat' (first | refine ts_seq (fun K hK hW => ?_) | refine ts_reg ?_ | refine tr_nil ?_ | refine tr_ev rfl ?_ | refine use_K (by assumption) ?_ | refine tr_guard_u rfl ?_ | refine tr_guard_y rfl rfl ?_ | refine tr_guard_n rfl rfl ?_ | refine tr_alloc rfl ?_ | refine tr_store rfl rfl rfl rfl rfl rfl rfl ?_ | refine ts_cond_t rfl rfl ?_ | refine ts_cond_f rfl rfl ?_ | refine ts_nop ?_ | refine ts_block ?_ | refine ts_exit ?_ | refine ts_ret ?_ | refine th_exit ?_ | refine th_ret ?_ | refine bl_normal ?_ | refine bl_ret ?_ | refine bl_hit ?_ | refine bl_miss rfl ?_ | refine tret_of (.inr rfl) rfl ?_ | fail)
  exact .s _ _ _ _ _ _ rfl rfl
theorem jumps_spec : Pure prog G n_names_jumps [] (.lst 1 (rw1 jumpsL)) := by
  refine Pure.of mixedOk (fn := f_names_jumps) rfl (by kernel_rfl) ok_names_jumps rfl fun C hP hG hp => ?_
  simp only [fs_names_jumps, targEnv, Nat.zero_add, Nat.reduceAdd]
  repeat' (first | refine ts_seq (fun K hK hW => ?_) | refine ts_reg ?_ | refine tr_nil ?_ | refine tr_ev rfl ?_ | refine use_K (by assumption) ?_ | refine tr_guard_u rfl ?_ | refine tr_guard_y rfl rfl ?_ | refine tr_guard_n rfl rfl ?_ | refine tr_alloc rfl ?_ | refine tr_store rfl rfl rfl rfl rfl rfl rfl ?_ | refine ts_cond_t rfl rfl ?_ | refine ts_cond_f rfl rfl ?_ | refine ts_nop ?_ | refine ts_block ?_ | refine ts_exit ?_ | refine ts_ret ?_ | refine th_exit ?_ | refine th_ret ?_ | refine bl_normal ?_ | refine bl_ret ?_ | refine bl_hit ?_ | refine bl_miss rfl ?_ | refine tret_of (.inr rfl) rfl ?_ | fail)
  exact .s _ _ _ _ _ _ rfl rfl
theorem ops_spec2 : Pure prog G n_ref1_ops [] (.lst 1 (rw1 (bs [] :: opsL))) := by
  refine Pure.of mixedOk (fn := f_ref1_ops) rfl (by kernel_rfl) ok_ref1_ops rfl fun C hP hG hp => ?_
  simp only [fs_ref1_ops, targEnv, Nat.zero_add, Nat.reduceAdd]
  repeat' (first | refine ts_seq (fun K hK hW => ?_) | refine ts_reg ?_ | refine tr_nil ?_ | refine tr_ev rfl ?_ | refine use_K (by assumption) ?_ | refine tr_guard_u rfl ?_ | refine tr_guard_y rfl rfl ?_ | refine tr_guard_n rfl rfl ?_ | refine tr_alloc rfl ?_ | refine tr_store rfl rfl rfl rfl rfl rfl rfl ?_ | refine ts_cond_t rfl rfl ?_ | refine ts_cond_f rfl rfl ?_ | refine ts_nop ?_ | refine ts_block ?_ | refine ts_exit ?_ | refine ts_ret ?_ | refine th_exit ?_ | refine th_ret ?_ | refine bl_normal ?_ | refine bl_ret ?_ | refine bl_hit ?_ | refine bl_miss rfl ?_ | refine tret_of (.inr rfl) rfl ?_ | fail)
  exact .s _ _ _ _ _ _ rfl rfl
theorem conds_spec : Pure prog G n_ref1_conds [] (.lst 1 (rw1 (bs [] :: jumpsL))) := by
  refine Pure.of mixedOk (fn := f_ref1_conds) rfl (by kernel_rfl) ok_ref1_conds rfl fun C hP hG hp => ?_
  simp only [fs_ref1_conds, targEnv, Nat.zero_add, Nat.reduceAdd]
  repeat' (first | refine ts_seq (fun K hK hW => ?_) | refine ts_reg ?_ | refine tr_nil ?_ | refine tr_ev rfl ?_ | refine use_K (by assumption) ?_ | refine tr_guard_u rfl ?_ | refine tr_guard_y rfl rfl ?_ | refine tr_guard_n rfl rfl ?_ | refine tr_alloc rfl ?_ | refine tr_store rfl rfl rfl rfl rfl rfl rfl ?_ | refine ts_cond_t rfl rfl ?_ | refine ts_cond_f rfl rfl ?_ | refine ts_nop ?_ | refine ts_block ?_ | refine ts_exit ?_ | refine ts_ret ?_ | refine th_exit ?_ | refine th_ret ?_ | refine bl_normal ?_ | refine bl_ret ?_ | refine bl_hit ?_ | refine bl_miss rfl ?_ | refine tret_of (.inr rfl) rfl ?_ | fail)
  exact .s _ _ _ _ _ _ rfl rfl

theorem index_spec (l : List ByteArray) (s : ByteArray) : Pure prog G n_ref1_index [.lst 1 (rw1 l), tS s] (tI (idxI l s)) := by
  refine Pure.of mixedOk (fn := f_ref1_index) rfl (by kernel_rfl) ok_ref1_index rfl fun C hP hG hp => ?_
  simp only [fs_ref1_index, targEnv, Nat.zero_add, Nat.reduceAdd]
  refine ts_bound (t := 0) rfl fun hb => ?_
  rw [rw1, List.length_map] at hb
  repeat' (first | refine ts_seq (fun K hK hW => ?_) | refine ts_reg ?_ | refine tr_nil ?_ | refine tr_ev rfl ?_ | refine use_K (by assumption) ?_ | refine tr_guard_u rfl ?_ | refine tr_guard_y rfl rfl ?_ | refine tr_guard_n rfl rfl ?_ | refine tr_alloc rfl ?_ | refine tr_store rfl rfl rfl rfl rfl rfl rfl ?_ | refine ts_cond_t rfl rfl ?_ | refine ts_cond_f rfl rfl ?_ | refine ts_nop ?_ | refine ts_block ?_ | refine ts_exit ?_ | refine ts_ret ?_ | refine th_exit ?_ | refine th_ret ?_ | refine bl_normal ?_ | refine bl_ret ?_ | refine bl_hit ?_ | refine bl_miss rfl ?_ | refine tret_of (.inr rfl) rfl ?_ | (refine tg_split rfl (fun h => ?_) (fun h => ?_) <;> try simp only [decide_eq_true_eq, decide_eq_false_iff_not, Bool.not_eq_true', Bool.not_eq_false', Bool.not_true, Bool.not_false, Bool.not_not, beq_iff_eq, Bool.not_eq_true, Bool.not_eq_false] at h) | (refine ts_cond rfl (fun h => ?_) (fun h => ?_) <;> try simp only [decide_eq_true_eq, decide_eq_false_iff_not, Bool.not_eq_true', Bool.not_eq_false', Bool.not_true, Bool.not_false, Bool.not_not, beq_iff_eq, Bool.not_eq_true, Bool.not_eq_false] at h) | fail)
  refine ts_loop (fun m env σ => ∃ i : Nat, m = l.length - i ∧ i ≤ l.length ∧ env = [(0, .lst 1 (l.map fun s => [tS s])), (1, tS s), (5, tI i)] ∧ σ = ⟨[], 0⟩ ∧ ∀ (j : Nat) (w : ByteArray), j < i → l[j]? = some w → w ≠ s) l.length (w_sub [0, 1, 5] rfl) ⟨0, rfl, by omega, rfl, rfl, fun j w hj => by omega⟩ ?_
  rintro m env σ ⟨i, rfl, hi, rfl, rfl, hn⟩
  by_cases hlt : i < l.length
  · have hg : l[i]? = some l[i] := List.getElem?_eq_getElem hlt
    generalize l[i] = w at hg
    repeat' (first | refine ts_seq (fun K hK hW => ?_) | refine ts_reg ?_ | refine tr_nil ?_ | refine tr_ev rfl ?_ | refine use_K (by assumption) ?_ | refine tr_guard_u rfl ?_ | refine tr_guard_y rfl rfl ?_ | refine tr_guard_n rfl rfl ?_ | refine tr_alloc rfl ?_ | refine tr_store rfl rfl rfl rfl rfl rfl rfl ?_ | refine ts_cond_t rfl rfl ?_ | refine ts_cond_f rfl rfl ?_ | refine ts_nop ?_ | refine ts_block ?_ | refine ts_exit ?_ | refine ts_ret ?_ | refine th_exit ?_ | refine th_ret ?_ | refine bl_normal ?_ | refine bl_ret ?_ | refine bl_hit ?_ | refine bl_miss rfl ?_ | refine tret_of (.inr rfl) rfl ?_ | refine ts_cond_t rfl (decide_eq_true (by rw [List.length_map]; omega)) ?_ | refine tr_light (tl_ixm (m := i) rfl rfl rfl hg) ?_ | (refine tg_split rfl (fun h => ?_) (fun h => ?_) <;> try simp only [decide_eq_true_eq, decide_eq_false_iff_not, Bool.not_eq_true', Bool.not_eq_false', Bool.not_true, Bool.not_false, Bool.not_not, beq_iff_eq, Bool.not_eq_true, Bool.not_eq_false] at h) | (refine ts_cond rfl (fun h => ?_) (fun h => ?_) <;> try simp only [decide_eq_true_eq, decide_eq_false_iff_not, Bool.not_eq_true', Bool.not_eq_false', Bool.not_true, Bool.not_false, Bool.not_not, beq_iff_eq, Bool.not_eq_true, Bool.not_eq_false] at h) | fail)
    · subst h
      rw [idxI_some (idx_some hg hn)]; exact .fr rfl
    · refine loop_again (m' := l.length - (i + 1)) (by omega) ?_ ⟨i + 1, rfl, by omega, rfl, rfl, fun j v hj hv => ?_⟩
      · (refine w_ren [] rfl (by rw [hp]; intro j hj; cases hj) rfl ?_ ?_ <;> repeat' (first | exact .nil | exact .f _ rfl | exact .s _ _ _ _ _ _ rfl | exact .p _ _ _ rfl | exact .rows _ _ _ | exact .iter _ _ | exact RenL.nil _ | refine RenL.cons ?_ ?_ | refine .cells _ _ _ ?_ | refine .cons _ _ _ _ rfl ?_ ?_ | refine .cons _ _ _ _ _ rfl rfl ?_ ?_ | refine .rowsE ?_ | refine .sE rfl ?_ | exact .m _ _ rfl | refine .fE rfl ?_ | fail))
        rw [w64 (by omega)]; rfl
      · rcases Nat.lt_or_ge j i with hji | hji
        · exact hn j v hji hv
        · have : j = i := by omega
          subst this; rw [hg] at hv; cases hv; exact h
  · repeat' (first | refine ts_seq (fun K hK hW => ?_) | refine ts_reg ?_ | refine tr_nil ?_ | refine tr_ev rfl ?_ | refine use_K (by assumption) ?_ | refine tr_guard_u rfl ?_ | refine tr_guard_y rfl rfl ?_ | refine tr_guard_n rfl rfl ?_ | refine tr_alloc rfl ?_ | refine tr_store rfl rfl rfl rfl rfl rfl rfl ?_ | refine ts_cond_t rfl rfl ?_ | refine ts_cond_f rfl rfl ?_ | refine ts_nop ?_ | refine ts_block ?_ | refine ts_exit ?_ | refine ts_ret ?_ | refine th_exit ?_ | refine th_ret ?_ | refine bl_normal ?_ | refine bl_ret ?_ | refine bl_hit ?_ | refine bl_miss rfl ?_ | refine tret_of (.inr rfl) rfl ?_ | refine ts_cond_f rfl (decide_eq_false (by rw [List.length_map]; omega)) ?_ | (refine tg_split rfl (fun h => ?_) (fun h => ?_) <;> try simp only [decide_eq_true_eq, decide_eq_false_iff_not, Bool.not_eq_true', Bool.not_eq_false', Bool.not_true, Bool.not_false, Bool.not_not, beq_iff_eq, Bool.not_eq_true, Bool.not_eq_false] at h) | (refine ts_cond rfl (fun h => ?_) (fun h => ?_) <;> try simp only [decide_eq_true_eq, decide_eq_false_iff_not, Bool.not_eq_true', Bool.not_eq_false', Bool.not_true, Bool.not_false, Bool.not_not, beq_iff_eq, Bool.not_eq_true, Bool.not_eq_false] at h) | fail)
    rw [idxI_none (idx_none fun j w hw => hn j w (by have := (List.getElem?_eq_some_iff.1 hw).1; omega) hw)]
    exact .fr rfl

theorem reg_spec (s : ByteArray) : Pure prog G n_names_Reg [tS s] (.tup [tI ((idx regsL s).getD 0), tB (idx regsL s).isSome]) := by
  refine Pure.of mixedOk (fn := f_names_Reg) rfl (by kernel_rfl) ok_names_Reg rfl fun C hP hG hp => ?_
  simp only [fs_names_Reg, targEnv, Nat.zero_add, Nat.reduceAdd]
  repeat' (first | refine ts_seq (fun K hK hW => ?_) | refine ts_reg ?_ | refine tr_nil ?_ | refine tr_ev rfl ?_ | refine use_K (by assumption) ?_ | refine tr_guard_u rfl ?_ | refine tr_guard_y rfl rfl ?_ | refine tr_guard_n rfl rfl ?_ | refine tr_alloc rfl ?_ | refine tr_store rfl rfl rfl rfl rfl rfl rfl ?_ | refine ts_cond_t rfl rfl ?_ | refine ts_cond_f rfl rfl ?_ | refine ts_nop ?_ | refine ts_block ?_ | refine ts_exit ?_ | refine ts_ret ?_ | refine th_exit ?_ | refine th_ret ?_ | refine bl_normal ?_ | refine bl_ret ?_ | refine bl_hit ?_ | refine bl_miss rfl ?_ | refine tret_of (.inr rfl) rfl ?_ | refine tr_call rfl (by rw [hP]; exact regs_spec) (.inl rfl) ?_ | (refine tg_split rfl (fun h => ?_) (fun h => ?_) <;> try simp only [decide_eq_true_eq, decide_eq_false_iff_not, Bool.not_eq_true', Bool.not_eq_false', Bool.not_true, Bool.not_false, Bool.not_not, beq_iff_eq, Bool.not_eq_true, Bool.not_eq_false] at h) | (refine ts_cond rfl (fun h => ?_) (fun h => ?_) <;> try simp only [decide_eq_true_eq, decide_eq_false_iff_not, Bool.not_eq_true', Bool.not_eq_false', Bool.not_true, Bool.not_false, Bool.not_not, beq_iff_eq, Bool.not_eq_true, Bool.not_eq_false] at h) | fail)
  have hlen : regsL.length = 8 := rfl
  refine ts_loop (fun m env σ => ∃ i : Nat, m = regsL.length - i ∧ i ≤ regsL.length ∧ env = [(0, tS s), (6, .lst 1 (regsL.map fun s => [tS s])), (7, tI 8), (8, tI i)] ∧ σ = ⟨[], 0⟩ ∧ ∀ (j : Nat) (w : ByteArray), j < i → regsL[j]? = some w → w ≠ s) regsL.length (w_sub [0, 6, 7, 8] rfl) ⟨0, rfl, by omega, rfl, rfl, fun j w hj => by omega⟩ ?_
  rintro m env σ ⟨i, rfl, hi, rfl, rfl, hn⟩
  by_cases hlt : i < regsL.length
  · have hg : regsL[i]? = some regsL[i] := List.getElem?_eq_getElem hlt
    generalize regsL[i] = w at hg
    repeat' (first | refine ts_seq (fun K hK hW => ?_) | refine ts_reg ?_ | refine tr_nil ?_ | refine tr_ev rfl ?_ | refine use_K (by assumption) ?_ | refine tr_guard_u rfl ?_ | refine tr_guard_y rfl rfl ?_ | refine tr_guard_n rfl rfl ?_ | refine tr_alloc rfl ?_ | refine tr_store rfl rfl rfl rfl rfl rfl rfl ?_ | refine ts_cond_t rfl rfl ?_ | refine ts_cond_f rfl rfl ?_ | refine ts_nop ?_ | refine ts_block ?_ | refine ts_exit ?_ | refine ts_ret ?_ | refine th_exit ?_ | refine th_ret ?_ | refine bl_normal ?_ | refine bl_ret ?_ | refine bl_hit ?_ | refine bl_miss rfl ?_ | refine tret_of (.inr rfl) rfl ?_ | refine ts_cond_t rfl (decide_eq_true (by omega)) ?_ | refine tr_light (tl_ixm (m := i) rfl rfl rfl hg) ?_ | (refine tg_split rfl (fun h => ?_) (fun h => ?_) <;> try simp only [decide_eq_true_eq, decide_eq_false_iff_not, Bool.not_eq_true', Bool.not_eq_false', Bool.not_true, Bool.not_false, Bool.not_not, beq_iff_eq, Bool.not_eq_true, Bool.not_eq_false] at h) | (refine ts_cond rfl (fun h => ?_) (fun h => ?_) <;> try simp only [decide_eq_true_eq, decide_eq_false_iff_not, Bool.not_eq_true', Bool.not_eq_false', Bool.not_true, Bool.not_false, Bool.not_not, beq_iff_eq, Bool.not_eq_true, Bool.not_eq_false] at h) | fail)
    · subst h
      rw [idx_some hg hn]; exact .fr rfl
    · refine loop_again (m' := regsL.length - (i + 1)) (by omega) ?_ ⟨i + 1, rfl, by omega, rfl, rfl, fun j v hj hv => ?_⟩
      · (refine w_ren [] rfl (by rw [hp]; intro j hj; cases hj) rfl ?_ ?_ <;> repeat' (first | exact .nil | exact .f _ rfl | exact .s _ _ _ _ _ _ rfl | exact .p _ _ _ rfl | exact .rows _ _ _ | exact .iter _ _ | exact RenL.nil _ | refine RenL.cons ?_ ?_ | refine .cells _ _ _ ?_ | refine .cons _ _ _ _ rfl ?_ ?_ | refine .cons _ _ _ _ _ rfl rfl ?_ ?_ | refine .rowsE ?_ | refine .sE rfl ?_ | exact .m _ _ rfl | refine .fE rfl ?_ | fail))
        rw [w64 (by omega)]; rfl
      · rcases Nat.lt_or_ge j i with hji | hji
        · exact hn j v hji hv
        · have : j = i := by omega
          subst this; rw [hg] at hv; cases hv; exact h
  · repeat' (first | refine ts_seq (fun K hK hW => ?_) | refine ts_reg ?_ | refine tr_nil ?_ | refine tr_ev rfl ?_ | refine use_K (by assumption) ?_ | refine tr_guard_u rfl ?_ | refine tr_guard_y rfl rfl ?_ | refine tr_guard_n rfl rfl ?_ | refine tr_alloc rfl ?_ | refine tr_store rfl rfl rfl rfl rfl rfl rfl ?_ | refine ts_cond_t rfl rfl ?_ | refine ts_cond_f rfl rfl ?_ | refine ts_nop ?_ | refine ts_block ?_ | refine ts_exit ?_ | refine ts_ret ?_ | refine th_exit ?_ | refine th_ret ?_ | refine bl_normal ?_ | refine bl_ret ?_ | refine bl_hit ?_ | refine bl_miss rfl ?_ | refine tret_of (.inr rfl) rfl ?_ | refine ts_cond_f rfl (decide_eq_false (by omega)) ?_ | (refine tg_split rfl (fun h => ?_) (fun h => ?_) <;> try simp only [decide_eq_true_eq, decide_eq_false_iff_not, Bool.not_eq_true', Bool.not_eq_false', Bool.not_true, Bool.not_false, Bool.not_not, beq_iff_eq, Bool.not_eq_true, Bool.not_eq_false] at h) | (refine ts_cond rfl (fun h => ?_) (fun h => ?_) <;> try simp only [decide_eq_true_eq, decide_eq_false_iff_not, Bool.not_eq_true', Bool.not_eq_false', Bool.not_true, Bool.not_false, Bool.not_not, beq_iff_eq, Bool.not_eq_true, Bool.not_eq_false] at h) | fail)
    rw [idx_none fun j w hw => hn j w (by have := (List.getElem?_eq_some_iff.1 hw).1; omega) hw]
    exact .fr rfl
theorem reg_spec2 (s : ByteArray) : Pure prog G n_ref1_Reg [tS s] (.tup [tI ((idx regsL s).getD 0), tB (idx regsL s).isSome]) := by
  have c := fun G => index_spec (G := G) regsL s
  refine Pure.of mixedOk (fn := f_ref1_Reg) rfl (by kernel_rfl) ok_ref1_Reg rfl fun C hP hG hp => ?_
  simp only [fs_ref1_Reg, targEnv, Nat.zero_add, Nat.reduceAdd]
  cases h : idx regsL s with
  | none =>
    simp only [idxI_none h] at c
    repeat' (first | refine ts_seq (fun K hK hW => ?_) | refine ts_reg ?_ | refine tr_nil ?_ | refine tr_ev rfl ?_ | refine use_K (by assumption) ?_ | refine tr_guard_u rfl ?_ | refine tr_guard_y rfl rfl ?_ | refine tr_guard_n rfl rfl ?_ | refine tr_alloc rfl ?_ | refine tr_store rfl rfl rfl rfl rfl rfl rfl ?_ | refine ts_cond_t rfl rfl ?_ | refine ts_cond_f rfl rfl ?_ | refine ts_nop ?_ | refine ts_block ?_ | refine ts_exit ?_ | refine ts_ret ?_ | refine th_exit ?_ | refine th_ret ?_ | refine bl_normal ?_ | refine bl_ret ?_ | refine bl_hit ?_ | refine bl_miss rfl ?_ | refine tret_of (.inr rfl) rfl ?_ | refine tr_call rfl (by rw [hP]; exact regs_spec2) (.inl rfl) ?_ | refine tr_call rfl (by rw [hP]; exact c _) (.inl rfl) ?_ | fail)
    exact .fr rfl
  | some i =>
    simp only [idxI_some h] at c
    repeat' (first | refine ts_seq (fun K hK hW => ?_) | refine ts_reg ?_ | refine tr_nil ?_ | refine tr_ev rfl ?_ | refine use_K (by assumption) ?_ | refine tr_guard_u rfl ?_ | refine tr_guard_y rfl rfl ?_ | refine tr_guard_n rfl rfl ?_ | refine tr_alloc rfl ?_ | refine tr_store rfl rfl rfl rfl rfl rfl rfl ?_ | refine ts_cond_t rfl rfl ?_ | refine ts_cond_f rfl rfl ?_ | refine ts_nop ?_ | refine ts_block ?_ | refine ts_exit ?_ | refine ts_ret ?_ | refine th_exit ?_ | refine th_ret ?_ | refine bl_normal ?_ | refine bl_ret ?_ | refine bl_hit ?_ | refine bl_miss rfl ?_ | refine tret_of (.inr rfl) rfl ?_ | refine tr_call rfl (by rw [hP]; exact regs_spec2) (.inl rfl) ?_ | refine tr_call rfl (by rw [hP]; exact c _) (.inl rfl) ?_ | refine ts_cond_f rfl (decide_eq_false (by omega)) ?_ | fail)
    exact .fr rfl
end
end Go.Proofs.YtmfkngldfphhmaaDoor
