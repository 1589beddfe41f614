/-
  Walks of functions of the program, and what the laws need of them.
-/
import Derived.Test.YtmfkngldfphhmaaDoorRF
set_option linter.all false
set_option linter.unusedSimpArgs false
set_option linter.unusedVariables false
set_option linter.unnecessarySimpa false
namespace Go.Proofs.YtmfkngldfphhmaaDoor
open Go Go.Proofs.YtmfkngldfphhmaaDoor.V Go.Proofs
section
attribute [local irreducible] TwS TwR thenT inBlockT retT
variable {G : World → Prop}

def letter (r : Int) : Bool := decide (97 ≤ r ∧ r ≤ 122 ∨ 65 ≤ r ∧ r ≤ 90 ∨ r = 95 ∨ 161 ≤ r ∧ r ≤ 1114111)
def digit (r : Int) : Bool := decide (48 ≤ r ∧ r ≤ 57)
theorem letter_spec (r : Int) : Pure prog G n_glyph_Letter [.v (.int .i32 r)] (.v (.bool (letter r))) := by
  refine Pure.of mixedOk (fn := f_glyph_Letter) rfl (by kernel_rfl) ok_glyph_Letter rfl fun C hP hG hp => ?_
  simp only [fs_glyph_Letter, targEnv, Nat.zero_add, Nat.reduceAdd]
  repeat' (first | refine ts_seq (fun K hK hW => ?_) | refine ts_reg ?_ | refine tr_nil ?_ | refine tr_ev rfl ?_ | refine use_K (by assumption) ?_ | refine tr_guard_u rfl ?_ | refine tr_guard_y rfl rfl ?_ | refine tr_guard_n rfl rfl ?_ | refine tr_alloc rfl ?_ | refine tr_store rfl rfl rfl rfl rfl rfl rfl ?_ | refine ts_cond_t rfl rfl ?_ | refine ts_cond_f rfl rfl ?_ | refine ts_nop ?_ | refine ts_block ?_ | refine ts_exit ?_ | refine ts_ret ?_ | refine th_exit ?_ | refine th_ret ?_ | refine bl_normal ?_ | refine bl_ret ?_ | refine bl_hit ?_ | refine bl_miss rfl ?_ | refine tret_of (.inr rfl) rfl ?_ | (refine tg_split rfl (fun h => ?_) (fun h => ?_) <;> try simp only [decide_eq_true_eq, decide_eq_false_iff_not, Bool.not_eq_true', Bool.not_eq_false', Bool.not_true, Bool.not_false, Bool.not_not, beq_iff_eq, Bool.not_eq_true, Bool.not_eq_false] at h) | (refine ts_cond rfl (fun h => ?_) (fun h => ?_) <;> try simp only [decide_eq_true_eq, decide_eq_false_iff_not, Bool.not_eq_true', Bool.not_eq_false', Bool.not_true, Bool.not_false, Bool.not_not, beq_iff_eq, Bool.not_eq_true, Bool.not_eq_false] at h) | fail)
  all_goals exact .vb (by rw [Bool.eq_iff_iff]; simp only [letter, decide_eq_true_eq, Bool.and_eq_true, Bool.or_eq_true, Bool.not_eq_true', decide_eq_false_iff_not, Bool.false_eq_true, true_iff, iff_true, false_iff, iff_false]; omega)
theorem letter_spec2 (r : Int) : Pure prog G n_ref1_Letter [.v (.int .i32 r)] (.v (.bool (letter r))) := by
  refine Pure.of mixedOk (fn := f_ref1_Letter) rfl (by kernel_rfl) ok_ref1_Letter rfl fun C hP hG hp => ?_
  simp only [fs_ref1_Letter, targEnv, Nat.zero_add, Nat.reduceAdd]
  repeat' (first | refine ts_seq (fun K hK hW => ?_) | refine ts_reg ?_ | refine tr_nil ?_ | refine tr_ev rfl ?_ | refine use_K (by assumption) ?_ | refine tr_guard_u rfl ?_ | refine tr_guard_y rfl rfl ?_ | refine tr_guard_n rfl rfl ?_ | refine tr_alloc rfl ?_ | refine tr_store rfl rfl rfl rfl rfl rfl rfl ?_ | refine ts_cond_t rfl rfl ?_ | refine ts_cond_f rfl rfl ?_ | refine ts_nop ?_ | refine ts_block ?_ | refine ts_exit ?_ | refine ts_ret ?_ | refine th_exit ?_ | refine th_ret ?_ | refine bl_normal ?_ | refine bl_ret ?_ | refine bl_hit ?_ | refine bl_miss rfl ?_ | refine tret_of (.inr rfl) rfl ?_ | (refine tg_split rfl (fun h => ?_) (fun h => ?_) <;> try simp only [decide_eq_true_eq, decide_eq_false_iff_not, Bool.not_eq_true', Bool.not_eq_false', Bool.not_true, Bool.not_false, Bool.not_not, beq_iff_eq, Bool.not_eq_true, Bool.not_eq_false] at h) | (refine ts_cond rfl (fun h => ?_) (fun h => ?_) <;> try simp only [decide_eq_true_eq, decide_eq_false_iff_not, Bool.not_eq_true', Bool.not_eq_false', Bool.not_true, Bool.not_false, Bool.not_not, beq_iff_eq, Bool.not_eq_true, Bool.not_eq_false] at h) | fail)
  all_goals exact .vb (by rw [Bool.eq_iff_iff]; simp only [letter, decide_eq_true_eq, Bool.and_eq_true, Bool.or_eq_true, Bool.not_eq_true', decide_eq_false_iff_not, Bool.false_eq_true, true_iff, iff_true, false_iff, iff_false]; omega)
theorem digit_spec (r : Int) : Pure prog G n_glyph_Digit [.v (.int .i32 r)] (.v (.bool (digit r))) := by
  refine Pure.of mixedOk (fn := f_glyph_Digit) rfl (by kernel_rfl) ok_glyph_Digit rfl fun C hP hG hp => ?_
  simp only [fs_glyph_Digit, targEnv, Nat.zero_add, Nat.reduceAdd]
  repeat' (first | refine ts_seq (fun K hK hW => ?_) | refine ts_reg ?_ | refine tr_nil ?_ | refine tr_ev rfl ?_ | refine use_K (by assumption) ?_ | refine tr_guard_u rfl ?_ | refine tr_guard_y rfl rfl ?_ | refine tr_guard_n rfl rfl ?_ | refine tr_alloc rfl ?_ | refine tr_store rfl rfl rfl rfl rfl rfl rfl ?_ | refine ts_cond_t rfl rfl ?_ | refine ts_cond_f rfl rfl ?_ | refine ts_nop ?_ | refine ts_block ?_ | refine ts_exit ?_ | refine ts_ret ?_ | refine th_exit ?_ | refine th_ret ?_ | refine bl_normal ?_ | refine bl_ret ?_ | refine bl_hit ?_ | refine bl_miss rfl ?_ | refine tret_of (.inr rfl) rfl ?_ | (refine tg_split rfl (fun h => ?_) (fun h => ?_) <;> try simp only [decide_eq_true_eq, decide_eq_false_iff_not, Bool.not_eq_true', Bool.not_eq_false', Bool.not_true, Bool.not_false, Bool.not_not, beq_iff_eq, Bool.not_eq_true, Bool.not_eq_false] at h) | (refine ts_cond rfl (fun h => ?_) (fun h => ?_) <;> try simp only [decide_eq_true_eq, decide_eq_false_iff_not, Bool.not_eq_true', Bool.not_eq_false', Bool.not_true, Bool.not_false, Bool.not_not, beq_iff_eq, Bool.not_eq_true, Bool.not_eq_false] at h) | fail)
  all_goals exact .vb (by rw [Bool.eq_iff_iff]; simp only [digit, decide_eq_true_eq, Bool.and_eq_true, Bool.or_eq_true, Bool.not_eq_true', decide_eq_false_iff_not, Bool.false_eq_true, true_iff, iff_true, false_iff, iff_false]; omega)
theorem digit_spec2 (r : Int) : Pure prog G n_ref1_Digit [.v (.int .i32 r)] (.v (.bool (digit r))) := by
  refine Pure.of mixedOk (fn := f_ref1_Digit) rfl (by kernel_rfl) ok_ref1_Digit rfl fun C hP hG hp => ?_
  simp only [fs_ref1_Digit, targEnv, Nat.zero_add, Nat.reduceAdd]
  repeat' (first | refine ts_seq (fun K hK hW => ?_) | refine ts_reg ?_ | refine tr_nil ?_ | refine tr_ev rfl ?_ | refine use_K (by assumption) ?_ | refine tr_guard_u rfl ?_ | refine tr_guard_y rfl rfl ?_ | refine tr_guard_n rfl rfl ?_ | refine tr_alloc rfl ?_ | refine tr_store rfl rfl rfl rfl rfl rfl rfl ?_ | refine ts_cond_t rfl rfl ?_ | refine ts_cond_f rfl rfl ?_ | refine ts_nop ?_ | refine ts_block ?_ | refine ts_exit ?_ | refine ts_ret ?_ | refine th_exit ?_ | refine th_ret ?_ | refine bl_normal ?_ | refine bl_ret ?_ | refine bl_hit ?_ | refine bl_miss rfl ?_ | refine tret_of (.inr rfl) rfl ?_ | (refine tg_split rfl (fun h => ?_) (fun h => ?_) <;> try simp only [decide_eq_true_eq, decide_eq_false_iff_not, Bool.not_eq_true', Bool.not_eq_false', Bool.not_true, Bool.not_false, Bool.not_not, beq_iff_eq, Bool.not_eq_true, Bool.not_eq_false] at h) | (refine ts_cond rfl (fun h => ?_) (fun h => ?_) <;> try simp only [decide_eq_true_eq, decide_eq_false_iff_not, Bool.not_eq_true', Bool.not_eq_false', Bool.not_true, Bool.not_false, Bool.not_not, beq_iff_eq, Bool.not_eq_true, Bool.not_eq_false] at h) | fail)
  all_goals exact .vb (by rw [Bool.eq_iff_iff]; simp only [digit, decide_eq_true_eq, Bool.and_eq_true, Bool.or_eq_true, Bool.not_eq_true', decide_eq_false_iff_not, Bool.false_eq_true, true_iff, iff_true, false_iff, iff_false]; omega)
def stepN (lc : Int × Int) (r : Nat) : Int × Int := if r = 10 then (lc.1 + 1, 1) else (lc.1, lc.2 + 1)
theorem step_spec (lc : Int × Int) (r : Nat) (ha : -9223372036854775808 ≤ lc.1 ∧ lc.1 < 9223372036854775807) (hb : -9223372036854775808 ≤ lc.2 ∧ lc.2 < 9223372036854775807) :
    Pure prog G n_glyph_step [.v (.int .i64 lc.1), .v (.int .i64 lc.2), .v (.int .i32 (r : Int))] (.tup [.v (.int .i64 (stepN lc r).1), .v (.int .i64 (stepN lc r).2)]) := by
  refine Pure.of mixedOk (fn := f_glyph_step) rfl (by kernel_rfl) ok_glyph_step rfl fun C hP hG hp => ?_
  simp only [fs_glyph_step, targEnv, Nat.zero_add, Nat.reduceAdd]
  repeat' (first | refine ts_seq (fun K hK hW => ?_) | refine ts_reg ?_ | refine tr_nil ?_ | refine tr_ev rfl ?_ | refine use_K (by assumption) ?_ | refine tr_guard_u rfl ?_ | refine tr_guard_y rfl rfl ?_ | refine tr_guard_n rfl rfl ?_ | refine tr_alloc rfl ?_ | refine tr_store rfl rfl rfl rfl rfl rfl rfl ?_ | refine ts_cond_t rfl rfl ?_ | refine ts_cond_f rfl rfl ?_ | refine ts_nop ?_ | refine ts_block ?_ | refine ts_exit ?_ | refine ts_ret ?_ | refine th_exit ?_ | refine th_ret ?_ | refine bl_normal ?_ | refine bl_ret ?_ | refine bl_hit ?_ | refine bl_miss rfl ?_ | refine tret_of (.inr rfl) rfl ?_ | (refine tg_split rfl (fun h => ?_) (fun h => ?_) <;> try simp only [decide_eq_true_eq, decide_eq_false_iff_not, Bool.not_eq_true', Bool.not_eq_false', Bool.not_true, Bool.not_false, Bool.not_not, beq_iff_eq, Bool.not_eq_true, Bool.not_eq_false] at h) | (refine ts_cond rfl (fun h => ?_) (fun h => ?_) <;> try simp only [decide_eq_true_eq, decide_eq_false_iff_not, Bool.not_eq_true', Bool.not_eq_false', Bool.not_true, Bool.not_false, Bool.not_not, beq_iff_eq, Bool.not_eq_true, Bool.not_eq_false] at h) | fail)
  · rw [show stepN lc r = (lc.1 + 1, 1) from if_pos (by omega), w64 (by omega)]; exact .fr rfl
  · rw [show stepN lc r = (lc.1, lc.2 + 1) from if_neg (by omega), w64 (by omega)]; exact .fr rfl

theorem decode_pos (s : ByteArray) (i : Nat) : 1 ≤ (Utf8.decode s i).2 ∧ (Utf8.decode s i).2 ≤ 4 := by
  unfold Utf8.decode
  simp only
  repeat' split
  all_goals simp


theorem decode_fit {s : ByteArray} {i : Nat} (h : i < s.size) : i + (Utf8.decode s i).2 ≤ s.size := by
  generalize hd : Utf8.decode s i = d
  unfold Utf8.decode at hd
  simp only at hd
  repeat' split at hd
  all_goals subst hd
  all_goals simp only [Bool.and_eq_true, decide_eq_true_eq] at *
  all_goals omega

/-- How many bytes a rune has. -/
def runeLen (r : Int) : Int := if r < 0 then -1 else if r ≤ 127 then 1 else if r ≤ 2047 then 2 else if 55296 ≤ r ∧ r ≤ 57343 then -1 else if r ≤ 65535 then 3 else if r ≤ 1114111 then 4 else -1

structure Spot where
  rune : Nat
  at' : Nat
  size : Nat
  line : Int
  col : Int
  bad : Bool
def cSpot (x : Spot) : List TV := [.v (.int .i32 (x.rune : Int)), tI x.at', tI x.size, tI x.line, tI x.col, tB x.bad]
def spotAt (s : ByteArray) (pos : Nat) (lc : Int × Int) : Spot := ⟨(Utf8.decode s pos).1, pos, (Utf8.decode s pos).2, lc.1, lc.2, decide ((Utf8.decode s pos).1 = 65533 ∧ (Utf8.decode s pos).2 = 1)⟩
/-- The runes of a text, and where they stand. -/
def spotsOf (s : ByteArray) : Nat → Nat → Int × Int → List Spot
  | 0, _, _ => []
  | n + 1, pos, lc => if pos < s.size then spotAt s pos lc :: spotsOf s n (pos + (Utf8.decode s pos).2) (stepN lc (Utf8.decode s pos).1) else []
theorem spots_stop (s : ByteArray) : ∀ (n pos : Nat) (lc : Int × Int), ¬ pos < s.size → spotsOf s n pos lc = []
  | 0, _, _, _ => rfl
  | n + 1, pos, lc, h => by simp [spotsOf, h]
theorem spots_more (s : ByteArray) : ∀ (n m pos : Nat) (lc : Int × Int), s.size - pos ≤ n → s.size - pos ≤ m → spotsOf s n pos lc = spotsOf s m pos lc
  | 0, m, pos, lc, h, _ => by rw [spots_stop s m pos lc (by omega)]; rfl
  | n + 1, 0, pos, lc, _, h => by rw [spots_stop s (n + 1) pos lc (by omega)]; rfl
  | n + 1, m + 1, pos, lc, h1, h2 => by
    have := decode_pos s pos
    simp only [spotsOf]
    split
    · rw [spots_more s n m _ _ (by omega) (by omega)]
    · rfl
def spots (s : ByteArray) : List Spot := spotsOf s s.size 0 (1, 1)

theorem get_eq (s : ByteArray) (i : Nat) : s.get! i = (s.data.toList[i]?).getD 0 := by
  unfold ByteArray.get!
  cases s with
  | mk d =>
    show d[i]! = _
    rw [Array.getElem!_eq_getD, Array.getD_eq_getD_getElem?, Array.getElem?_toList]; rfl
theorem dec_cases {s : ByteArray} {i : Nat} {d : Nat × Nat} (hd : Utf8.decode s i = d) : (d.1 < 128 ∧ d.2 = 1) ∨ (128 ≤ d.1 ∧ d.1 ≤ 2047 ∧ d.2 = 2) ∨
    (2048 ≤ d.1 ∧ d.1 ≤ 65535 ∧ (d.1 < 55296 ∨ 57344 ≤ d.1) ∧ d.2 = 3) ∨ (65536 ≤ d.1 ∧ d.1 ≤ 1114111 ∧ d.2 = 4) ∨ d = (65533, 1) := by
  unfold Utf8.decode at hd
  simp only [Utf8.runeError] at hd
  split at hd
  · subst hd; exact .inl ⟨by assumption, rfl⟩
  split at hd
  · split at hd
    · rename_i h
      subst hd
      exact .inr (.inl ⟨h, by simp only; omega, rfl⟩)
    · exact .inr (.inr (.inr (.inr hd.symm)))
  split at hd
  · split at hd
    · rename_i h
      simp only [Utf8.valid, Bool.and_eq_true, Bool.or_eq_true, decide_eq_true_eq] at h
      subst hd
      exact .inr (.inr (.inl ⟨h.1, by simp only; omega, by simp only; omega, rfl⟩))
    · exact .inr (.inr (.inr (.inr hd.symm)))
  split at hd
  · split at hd
    · rename_i h
      simp only [Utf8.valid, Bool.and_eq_true, Bool.or_eq_true, decide_eq_true_eq] at h
      subst hd
      exact .inr (.inr (.inr (.inl ⟨h.1, by simp only; omega, rfl⟩)))
    · exact .inr (.inr (.inr (.inr hd.symm)))
  · exact .inr (.inr (.inr (.inr hd.symm)))
theorem decode_len (s : ByteArray) (i : Nat) (h : (Utf8.decode s i).1 ≠ 65533) : runeLen ((Utf8.decode s i).1 : Int) = ((Utf8.decode s i).2 : Int) := by
  unfold runeLen
  rcases dec_cases (s := s) (i := i) rfl with ⟨h1, h2⟩ | ⟨h1, h2, h3⟩ | ⟨h1, h2, h3, h4⟩ | ⟨h1, h2, h3⟩ | h1
  · repeat' split
    all_goals omega
  · repeat' split
    all_goals omega
  · repeat' split
    all_goals omega
  · repeat' split
    all_goals omega
  · rw [h1] at h; exact absurd rfl h

theorem spots_bad (s : ByteArray) : ∀ (n pos : Nat) (lc : Int × Int) (x : Spot), x ∈ spotsOf s n pos lc → x.bad = decide (x.rune = 65533 ∧ x.size = 1)
  | 0, _, _, _, h => by cases h
  | n + 1, pos, lc, x, h => by
    simp only [spotsOf] at h
    split at h
    · rcases List.mem_cons.1 h with rfl | h
      · rfl
      · exact spots_bad s n _ _ x h
    · cases h
theorem spots_len (s : ByteArray) : ∀ (n pos : Nat) (lc : Int × Int), (spotsOf s n pos lc).length ≤ n
  | 0, _, _ => Nat.le_refl _
  | n + 1, pos, lc => by
    simp only [spotsOf]
    split
    · rw [List.length_cons]; exact Nat.succ_le_succ (spots_len s n _ _)
    · exact Nat.zero_le _
end
end Go.Proofs.YtmfkngldfphhmaaDoor
