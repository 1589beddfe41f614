/-
  Walks of functions of the program, and what the laws need of them.
-/
import Derived.Test.YtnphhelbianjpaaGreatDoorRF
import Derived.Test.YtnphhelbianjpaaGreatDoorRLay
set_option linter.all false
set_option linter.unusedSimpArgs false
set_option linter.unusedVariables false
set_option linter.unnecessarySimpa false
namespace Go.Proofs.YtnphhelbianjpaaGreatDoor
set_option maxRecDepth 20000
open Go Go.Proofs.YtnphhelbianjpaaGreatDoor.V Go.Proofs
theorem ut_bool : prog.underlying 4 = some .bool := by kernel_rfl
end Go.Proofs.YtnphhelbianjpaaGreatDoor
namespace Go.Proofs.YtnphhelbianjpaaGreatDoor
set_option maxRecDepth 20000
open Go Go.Proofs.YtnphhelbianjpaaGreatDoor.V Go.Proofs
section
attribute [local irreducible] TwS TwR thenT inBlockT retT
variable {G : World → Prop}

def letter (r : Int) : Bool := decide (97 ≤ r ∧ r ≤ 122 ∨ 65 ≤ r ∧ r ≤ 90 ∨ r = 95 ∨ 161 ≤ r ∧ r ≤ 1114111)
def digit (r : Int) : Bool := decide (48 ≤ r ∧ r ≤ 57)
theorem letter_spec (r : Int) : Pure prog G 127 [.v (.int .i32 r)] (.v (.bool (letter r))) := by
 refine Pure.at mixedOk F127 rfl fun C hP hG hp => ?_
 simp only [F127, targEnv, Nat.zero_add, Nat.reduceAdd]
 repeat' (first | refine ts_seq (fun K hK hW => ?_) | refine ts_reg ?_ | refine tr_nil ?_ | refine tr_ev rfl ?_ | refine use_K (by assumption) ?_ | refine tr_guard_u rfl ?_ | refine gY rfl rfl ?_ | refine gN rfl rfl ?_ | refine tr_alloc rfl ?_ | refine tr_store rfl rfl rfl rfl rfl rfl rfl ?_ | refine qT rfl rfl ?_ | refine qF rfl rfl ?_ | refine ts_nop ?_ | refine ts_block ?_ | refine ts_exit ?_ | refine ts_ret ?_ | refine th_exit ?_ | refine th_ret ?_ | refine bl_normal ?_ | refine bl_ret ?_ | refine bl_hit ?_ | refine bl_miss rfl ?_ | refine tret_of (.inr rfl) rfl ?_ | (refine gS rfl (fun h => ?_) (fun h => ?_) <;> try simp only [bs0, beq_iff_eq] at h) | (refine ts_cond rfl (fun h => ?_) (fun h => ?_) <;> try simp only [bs0, beq_iff_eq] at h) | fail)
 all_goals exact .vb (by rw [Bool.eq_iff_iff]; simp only [letter, decide_eq_true_eq, Bool.and_eq_true, Bool.or_eq_true, Bool.not_eq_true', decide_eq_false_iff_not, Bool.false_eq_true, true_iff, iff_true, false_iff, iff_false]; omega)
theorem letter_spec2 (r : Int) : Pure prog G 94 [.v (.int .i32 r)] (.v (.bool (letter r))) := by
 refine Pure.at mixedOk F94 rfl fun C hP hG hp => ?_
 simp only [F94, targEnv, Nat.zero_add, Nat.reduceAdd]
 repeat' (first | refine ts_seq (fun K hK hW => ?_) | refine ts_reg ?_ | refine tr_nil ?_ | refine tr_ev rfl ?_ | refine use_K (by assumption) ?_ | refine tr_guard_u rfl ?_ | refine gY rfl rfl ?_ | refine gN rfl rfl ?_ | refine tr_alloc rfl ?_ | refine tr_store rfl rfl rfl rfl rfl rfl rfl ?_ | refine qT rfl rfl ?_ | refine qF rfl rfl ?_ | refine ts_nop ?_ | refine ts_block ?_ | refine ts_exit ?_ | refine ts_ret ?_ | refine th_exit ?_ | refine th_ret ?_ | refine bl_normal ?_ | refine bl_ret ?_ | refine bl_hit ?_ | refine bl_miss rfl ?_ | refine tret_of (.inr rfl) rfl ?_ | (refine gS rfl (fun h => ?_) (fun h => ?_) <;> try simp only [bs0, beq_iff_eq] at h) | (refine ts_cond rfl (fun h => ?_) (fun h => ?_) <;> try simp only [bs0, beq_iff_eq] at h) | fail)
 all_goals exact .vb (by rw [Bool.eq_iff_iff]; simp only [letter, decide_eq_true_eq, Bool.and_eq_true, Bool.or_eq_true, Bool.not_eq_true', decide_eq_false_iff_not, Bool.false_eq_true, true_iff, iff_true, false_iff, iff_false]; omega)
theorem digit_spec (r : Int) : Pure prog G 128 [.v (.int .i32 r)] (.v (.bool (digit r))) := by
 refine Pure.at mixedOk F128 rfl fun C hP hG hp => ?_
 simp only [F128, targEnv, Nat.zero_add, Nat.reduceAdd]
 repeat' (first | refine ts_seq (fun K hK hW => ?_) | refine ts_reg ?_ | refine tr_nil ?_ | refine tr_ev rfl ?_ | refine use_K (by assumption) ?_ | refine tr_guard_u rfl ?_ | refine gY rfl rfl ?_ | refine gN rfl rfl ?_ | refine tr_alloc rfl ?_ | refine tr_store rfl rfl rfl rfl rfl rfl rfl ?_ | refine qT rfl rfl ?_ | refine qF rfl rfl ?_ | refine ts_nop ?_ | refine ts_block ?_ | refine ts_exit ?_ | refine ts_ret ?_ | refine th_exit ?_ | refine th_ret ?_ | refine bl_normal ?_ | refine bl_ret ?_ | refine bl_hit ?_ | refine bl_miss rfl ?_ | refine tret_of (.inr rfl) rfl ?_ | (refine gS rfl (fun h => ?_) (fun h => ?_) <;> try simp only [bs0, beq_iff_eq] at h) | (refine ts_cond rfl (fun h => ?_) (fun h => ?_) <;> try simp only [bs0, beq_iff_eq] at h) | fail)
 all_goals exact .vb (by rw [Bool.eq_iff_iff]; simp only [digit, decide_eq_true_eq, Bool.and_eq_true, Bool.or_eq_true, Bool.not_eq_true', decide_eq_false_iff_not, Bool.false_eq_true, true_iff, iff_true, false_iff, iff_false]; omega)
theorem digit_spec2 (r : Int) : Pure prog G 95 [.v (.int .i32 r)] (.v (.bool (digit r))) := by
 refine Pure.at mixedOk F95 rfl fun C hP hG hp => ?_
 simp only [F95, targEnv, Nat.zero_add, Nat.reduceAdd]
 repeat' (first | refine ts_seq (fun K hK hW => ?_) | refine ts_reg ?_ | refine tr_nil ?_ | refine tr_ev rfl ?_ | refine use_K (by assumption) ?_ | refine tr_guard_u rfl ?_ | refine gY rfl rfl ?_ | refine gN rfl rfl ?_ | refine tr_alloc rfl ?_ | refine tr_store rfl rfl rfl rfl rfl rfl rfl ?_ | refine qT rfl rfl ?_ | refine qF rfl rfl ?_ | refine ts_nop ?_ | refine ts_block ?_ | refine ts_exit ?_ | refine ts_ret ?_ | refine th_exit ?_ | refine th_ret ?_ | refine bl_normal ?_ | refine bl_ret ?_ | refine bl_hit ?_ | refine bl_miss rfl ?_ | refine tret_of (.inr rfl) rfl ?_ | (refine gS rfl (fun h => ?_) (fun h => ?_) <;> try simp only [bs0, beq_iff_eq] at h) | (refine ts_cond rfl (fun h => ?_) (fun h => ?_) <;> try simp only [bs0, beq_iff_eq] at h) | fail)
 all_goals exact .vb (by rw [Bool.eq_iff_iff]; simp only [digit, decide_eq_true_eq, Bool.and_eq_true, Bool.or_eq_true, Bool.not_eq_true', decide_eq_false_iff_not, Bool.false_eq_true, true_iff, iff_true, false_iff, iff_false]; omega)
def stepN (lc : Int × Int) (r : Nat) : Int × Int := if r = 10 then (lc.1 + 1, 1) else (lc.1, lc.2 + 1)
theorem step_spec (lc : Int × Int) (r : Nat) (ha : -9223372036854775808 ≤ lc.1 ∧ lc.1 < 9223372036854775807) (hb : -9223372036854775808 ≤ lc.2 ∧ lc.2 < 9223372036854775807) :
  Pure prog G 143 [.v (.int .i64 lc.1), .v (.int .i64 lc.2), .v (.int .i32 (r : Int))] (.tup [.v (.int .i64 (stepN lc r).1), .v (.int .i64 (stepN lc r).2)]) := by
 refine Pure.at mixedOk F143 rfl fun C hP hG hp => ?_
 simp only [F143, targEnv, Nat.zero_add, Nat.reduceAdd]
 repeat' (first | refine ts_seq (fun K hK hW => ?_) | refine ts_reg ?_ | refine tr_nil ?_ | refine tr_ev rfl ?_ | refine use_K (by assumption) ?_ | refine tr_guard_u rfl ?_ | refine gY rfl rfl ?_ | refine gN rfl rfl ?_ | refine tr_alloc rfl ?_ | refine tr_store rfl rfl rfl rfl rfl rfl rfl ?_ | refine qT rfl rfl ?_ | refine qF rfl rfl ?_ | refine ts_nop ?_ | refine ts_block ?_ | refine ts_exit ?_ | refine ts_ret ?_ | refine th_exit ?_ | refine th_ret ?_ | refine bl_normal ?_ | refine bl_ret ?_ | refine bl_hit ?_ | refine bl_miss rfl ?_ | refine tret_of (.inr rfl) rfl ?_ | (refine gS rfl (fun h => ?_) (fun h => ?_) <;> try simp only [bs0, beq_iff_eq] at h) | (refine ts_cond rfl (fun h => ?_) (fun h => ?_) <;> try simp only [bs0, beq_iff_eq] at h) | fail)
 ·rw [show stepN lc r = (lc.1 + 1, 1) from if_pos (by omega), w64 (by omega)]; exact .fr rfl
 ·rw [show stepN lc r = (lc.1, lc.2 + 1) from if_neg (by omega), w64 (by omega)]; exact .fr rfl

theorem decode_pos (s : ByteArray) (i : Nat) : 1 ≤ (Utf8.decode s i).2 ∧ (Utf8.decode s i).2 ≤ 4 := by
 unfold Utf8.decode
 simp only
 repeat' split
 all_goals simp

theorem decode_fit {s : ByteArray} {i : Nat} (h : i < s.size) : i + (Utf8.decode s i).2 ≤ s.size := by
 generalize hd : Utf8.decode s i = d
 unfold Utf8.decode at hd
 simp only at hd
 repeat' split at hd
 all_goals subst hd
 all_goals simp only [Bool.and_eq_true, decide_eq_true_eq] at *
 all_goals omega

def runeLen (r : Int) : Int := if r < 0 then -1 else if r ≤ 127 then 1 else if r ≤ 2047 then 2 else if 55296 ≤ r ∧ r ≤ 57343 then -1 else if r ≤ 65535 then 3 else if r ≤ 1114111 then 4 else -1

structure Spot where
 rune : Nat
 at' : Nat
 size : Nat
 line : Int
 col : Int
 bad : Bool
def cSpot (x : Spot) : List TV := [.v (.int .i32 (x.rune : Int)), tI x.at', tI x.size, tI x.line, tI x.col, tB x.bad]
def spotAt (s : ByteArray) (pos : Nat) (lc : Int × Int) : Spot := ⟨(Utf8.decode s pos).1, pos, (Utf8.decode s pos).2, lc.1, lc.2, decide ((Utf8.decode s pos).1 = 65533 ∧ (Utf8.decode s pos).2 = 1)⟩
def spotsOf (s : ByteArray) : Nat → Nat → Int × Int → List Spot
 | 0, _, _ => []
 | n + 1, pos, lc => if pos < s.size then spotAt s pos lc :: spotsOf s n (pos + (Utf8.decode s pos).2) (stepN lc (Utf8.decode s pos).1) else []
theorem spots_stop (s : ByteArray) : ∀ (n pos : Nat) (lc : Int × Int), ¬ pos < s.size → spotsOf s n pos lc = []
 | 0, _, _, _ => rfl
 | n + 1, pos, lc, h => by simp [spotsOf, h]
theorem spots_more (s : ByteArray) : ∀ (n m pos : Nat) (lc : Int × Int), s.size - pos ≤ n → s.size - pos ≤ m → spotsOf s n pos lc = spotsOf s m pos lc
 | 0, m, pos, lc, h, _ => by rw [spots_stop s m pos lc (by omega)]; rfl
 | n + 1, 0, pos, lc, _, h => by rw [spots_stop s (n + 1) pos lc (by omega)]; rfl
 | n + 1, m + 1, pos, lc, h1, h2 => by
  have := decode_pos s pos
  simp only [spotsOf]
  split
  ·rw [spots_more s n m _ _ (by omega) (by omega)]
  ·rfl
def spots (s : ByteArray) : List Spot := spotsOf s s.size 0 (1, 1)

theorem get_eq (s : ByteArray) (i : Nat) : s.get! i = (s.data.toList[i]?).getD 0 := by
 unfold ByteArray.get!
 cases s with
 | mk d =>
  show d[i]! = _
  rw [Array.getElem!_eq_getD, Array.getD_eq_getD_getElem?, Array.getElem?_toList]; rfl
theorem dec_cases {s : ByteArray} {i : Nat} {d : Nat × Nat} (hd : Utf8.decode s i = d) : (d.1 < 128 ∧ d.2 = 1) ∨ (128 ≤ d.1 ∧ d.1 ≤ 2047 ∧ d.2 = 2) ∨
  (2048 ≤ d.1 ∧ d.1 ≤ 65535 ∧ (d.1 < 55296 ∨ 57344 ≤ d.1) ∧ d.2 = 3) ∨ (65536 ≤ d.1 ∧ d.1 ≤ 1114111 ∧ d.2 = 4) ∨ d = (65533, 1) := by
 unfold Utf8.decode at hd
 simp only [Utf8.runeError] at hd
 split at hd
 ·subst hd; exact .inl ⟨by assumption, rfl⟩
 split at hd
 ·split at hd
  ·rename_i h
   subst hd
   exact .inr (.inl ⟨h, by simp only; omega, rfl⟩)
  ·exact .inr (.inr (.inr (.inr hd.symm)))
 split at hd
 ·split at hd
  ·rename_i h
   simp only [Utf8.valid, Bool.and_eq_true, Bool.or_eq_true, decide_eq_true_eq] at h
   subst hd
   exact .inr (.inr (.inl ⟨h.1, by simp only; omega, by simp only; omega, rfl⟩))
  ·exact .inr (.inr (.inr (.inr hd.symm)))
 split at hd
 ·split at hd
  ·rename_i h
   simp only [Utf8.valid, Bool.and_eq_true, Bool.or_eq_true, decide_eq_true_eq] at h
   subst hd
   exact .inr (.inr (.inr (.inl ⟨h.1, by simp only; omega, rfl⟩)))
  ·exact .inr (.inr (.inr (.inr hd.symm)))
 ·exact .inr (.inr (.inr (.inr hd.symm)))
theorem decode_len (s : ByteArray) (i : Nat) (h : (Utf8.decode s i).1 ≠ 65533) : runeLen ((Utf8.decode s i).1 : Int) = ((Utf8.decode s i).2 : Int) := by
 unfold runeLen
 rcases dec_cases (s := s) (i := i) rfl with ⟨h1, h2⟩ | ⟨h1, h2, h3⟩ | ⟨h1, h2, h3, h4⟩ | ⟨h1, h2, h3⟩ | h1
 ·repeat' split
  all_goals omega
 ·repeat' split
  all_goals omega
 ·repeat' split
  all_goals omega
 ·repeat' split
  all_goals omega
 ·rw [h1] at h; exact absurd rfl h

theorem spots_bad (s : ByteArray) : ∀ (n pos : Nat) (lc : Int × Int) (x : Spot), x ∈ spotsOf s n pos lc → x.bad = decide (x.rune = 65533 ∧ x.size = 1)
 | 0, _, _, _, h => by cases h
 | n + 1, pos, lc, x, h => by
  simp only [spotsOf] at h
  split at h
  ·rcases List.mem_cons.1 h with rfl | h
   ·rfl
   ·exact spots_bad s n _ _ x h
  ·cases h
theorem spots_len (s : ByteArray) : ∀ (n pos : Nat) (lc : Int × Int), (spotsOf s n pos lc).length ≤ n
 | 0, _, _ => Nat.le_refl _
 | n + 1, pos, lc => by
  simp only [spotsOf]
  split
  ·rw [List.length_cons]; exact Nat.succ_le_succ (spots_len s n _ _)
  ·exact Nat.zero_le _
end
end Go.Proofs.YtnphhelbianjpaaGreatDoor
namespace Go.Proofs.YtnphhelbianjpaaGreatDoor
set_option maxRecDepth 20000
open Go Go.Proofs.YtnphhelbianjpaaGreatDoor.V Go.Proofs
section
attribute [local irreducible] TwS TwR thenT inBlockT retT

variable {G : World → Prop}
theorem runeLen_spec (r : Int) : Pure prog G 142 [.v (.int .i32 r)] (.v (.int .i64 (runeLen r))) := by
 refine Pure.at mixedOk F142 rfl fun C hP hG hp => ?_
 simp only [F142, targEnv, Nat.zero_add, Nat.reduceAdd]
 repeat' (first | refine ts_seq (fun K hK hW => ?_) | refine ts_reg ?_ | refine tr_nil ?_ | refine tr_ev rfl ?_ | refine use_K (by assumption) ?_ | refine tr_guard_u rfl ?_ | refine gY rfl rfl ?_ | refine gN rfl rfl ?_ | refine tr_alloc rfl ?_ | refine tr_store rfl rfl rfl rfl rfl rfl rfl ?_ | refine qT rfl rfl ?_ | refine qF rfl rfl ?_ | refine ts_nop ?_ | refine ts_block ?_ | refine ts_exit ?_ | refine ts_ret ?_ | refine th_exit ?_ | refine th_ret ?_ | refine bl_normal ?_ | refine bl_ret ?_ | refine bl_hit ?_ | refine bl_miss rfl ?_ | refine tret_of (.inr rfl) rfl ?_ | (refine gS rfl (fun h => ?_) (fun h => ?_) <;> try simp only [bs0, beq_iff_eq] at h) | (refine ts_cond rfl (fun h => ?_) (fun h => ?_) <;> try simp only [bs0, beq_iff_eq] at h) | fail)
 all_goals refine .vi ?_
 all_goals unfold runeLen
 all_goals repeat' split
 all_goals omega

theorem decode_tail (s : ByteArray) (i : Nat) (h : i < s.size) : Lib.decodeGo (s.extract i s.size) = Utf8.decode s i := by
 have hs : (s.extract i s.size).size = s.size - i := by simp [ByteArray.size_extract]
 have hl : (s.extract i s.size).data.toList = s.data.toList.drop i := by
  simp only [ByteArray.data_extract, Array.toList_extract, List.extract_eq_take_drop]
  rw [List.take_of_length_le (by simp)]
 have hg : ∀ k, (s.extract i s.size).get! k = s.get! (i + k) := by
  intro k
  rw [get_eq, get_eq, hl, List.getElem?_drop]
 have hc : ∀ k, decide (k < s.size - i) = decide (i + k < s.size) := fun k => decide_eq_decide.2 (by omega)
 unfold Lib.decodeGo
 rw [if_neg (by omega)]
 unfold Utf8.decode
 simp only [hs, Nat.zero_add, hg, hc, Nat.add_zero]
theorem spots_spec (s : ByteArray) (hs : s.size ≤ 1000000000000) : Pure prog Tabs 126 [.v (.string s)] (.lst 6 ((spots s).map cSpot)) := by
 refine Pure.at mixedOk F126 rfl fun C hP hG hp => ?_
 simp only [F126, targEnv, Nat.zero_add, Nat.reduceAdd]
 repeat' (first | refine ts_seq (fun K hK hW => ?_) | refine ts_reg ?_ | refine tr_nil ?_ | refine tr_ev rfl ?_ | refine use_K (by assumption) ?_ | refine tr_guard_u rfl ?_ | refine gY rfl rfl ?_ | refine gN rfl rfl ?_ | refine tr_alloc rfl ?_ | refine tr_store rfl rfl rfl rfl rfl rfl rfl ?_ | refine qT rfl rfl ?_ | refine qF rfl rfl ?_ | refine ts_nop ?_ | refine ts_block ?_ | refine ts_exit ?_ | refine ts_ret ?_ | refine th_exit ?_ | refine th_ret ?_ | refine bl_normal ?_ | refine bl_ret ?_ | refine bl_hit ?_ | refine bl_miss rfl ?_ | refine tret_of (.inr rfl) rfl ?_ | fail)
 refine ts_loop (fun m env σ => ∃ (pos : Nat) (lc : Int × Int) (xs : List Spot), m = s.size - pos ∧ env = [(0, .v (.string s)), (3, .s 1 6 0 xs.length true), (4, .v (.int .i64 lc.1)), (5, .v (.int .i64 lc.2)), (10, .p 0 0)] ∧ σ = ⟨[(1, .rows 6 (xs.map cSpot) 185), (0, .iter s pos)], 2⟩ ∧
  xs ++ spotsOf s m pos lc = spots s ∧ 0 ≤ lc.1 ∧ lc.1 ≤ pos + 1 ∧ 0 ≤ lc.2 ∧ lc.2 ≤ pos + 1 ∧ pos < 1000000000005 ∧ xs.length ≤ pos)
  s.size ((w_virt (d := 3) 6 185 rfl).trans (w_sub [0, 3, 4, 5, 10] rfl)) ⟨0, (1, 1), [], rfl, rfl, rfl, rfl, by omega, by omega, by omega, by omega, by omega, by simp⟩ ?_
 rintro m env σ ⟨pos, lc, xs, rfl, rfl, rfl, he, h1, h2, h3, h4, h5, h6⟩
 by_cases hlt : pos < s.size
 ·have hd := decode_pos s pos
  have hspot : spotsOf s (s.size - pos) pos lc = spotAt s pos lc :: spotsOf s (s.size - (pos + (Utf8.decode s pos).2)) (pos + (Utf8.decode s pos).2) (stepN lc (Utf8.decode s pos).1) := by
   rw [show s.size - pos = (s.size - pos - 1) + 1 by omega, spotsOf, if_pos hlt]
   rw [spots_more _ _ (s.size - (pos + (Utf8.decode s pos).2)) _ _ (by omega) (by omega)]
  have hbnd : 0 ≤ (stepN lc (Utf8.decode s pos).1).1 ∧ (stepN lc (Utf8.decode s pos).1).1 ≤ ((pos + (Utf8.decode s pos).2 : Nat) : Int) + 1 ∧ 0 ≤ (stepN lc (Utf8.decode s pos).1).2 ∧ (stepN lc (Utf8.decode s pos).1).2 ≤ ((pos + (Utf8.decode s pos).2 : Nat) : Int) + 1 := by
   simp only [stepN]
   split <;> simp only <;> omega
  repeat' (first | refine ts_seq (fun K hK hW => ?_) | refine ts_reg ?_ | refine tr_nil ?_ | refine tr_ev rfl ?_ | refine use_K (by assumption) ?_ | refine tr_guard_u rfl ?_ | refine gY rfl rfl ?_ | refine gN rfl rfl ?_ | refine tr_alloc rfl ?_ | refine tr_store rfl rfl rfl rfl rfl rfl rfl ?_ | refine qT rfl rfl ?_ | refine qF rfl rfl ?_ | refine ts_nop ?_ | refine ts_block ?_ | refine ts_exit ?_ | refine ts_ret ?_ | refine th_exit ?_ | refine th_ret ?_ | refine bl_normal ?_ | refine bl_ret ?_ | refine bl_hit ?_ | refine bl_miss rfl ?_ | refine tret_of (.inr rfl) rfl ?_ | refine tr_next rfl rfl rfl hlt ?_ | refine lT (tl_slS (by rw [hP]; kernel_rfl) rfl rfl rfl (by simp; omega)) ?_ | refine cA rfl (by rw [hP, hG]; exact decode_spec _) rfl ?_ | refine cA rfl (by rw [hP]; exact runeLen_spec _) rfl ?_ | refine cA rfl (by rw [hP]; exact step_spec _ _ (by omega) (by omega)) rfl ?_ | refine tr_append rfl rfl (by rw [lM]) (.inr (.inr ⟨_, _, _, _, rfl, rfl, rfl⟩)) (by simp only [List.length_cons, List.length_nil]; omega) rfl ?_ | (refine gS rfl (fun h => ?_) (fun h => ?_) <;> try simp only [bs0, beq_iff_eq] at h) | (refine ts_cond rfl (fun h => ?_) (fun h => ?_) <;> try simp only [bs0, beq_iff_eq] at h) | fail)
  all_goals refine loop_again (m' := s.size - (pos + (Utf8.decode s pos).2)) (by omega) ?_ ⟨pos + (Utf8.decode s pos).2, stepN lc (Utf8.decode s pos).1, xs ++ [spotAt s pos lc], rfl, rfl, rfl, by rw [← he, hspot, List.append_assoc]; rfl, hbnd.1, hbnd.2.1, hbnd.2.2.1, hbnd.2.2.2, by omega, by rw [lA]; simp only [List.length_cons, List.length_nil]; omega⟩
  ·(refine w_ren [(1, 4), (0, 0)] rfl (by rw [hp]; intro j hj; cases hj) rfl ?_ ?_ <;> repeat' (first | exact .nil | exact .f _ rfl | exact .s _ _ _ _ _ _ rfl | exact .p _ _ _ rfl | exact .rows _ _ _ | exact .iter _ _ | exact RenL.nil _ | refine RenL.cons ?_ ?_ | refine .cells _ _ _ ?_ | refine .cons _ _ _ _ rfl ?_ ?_ | refine .cons _ _ _ _ _ rfl rfl ?_ ?_ | refine .rowsE ?_ | refine .sE rfl ?_ | exact .m _ _ rfl | refine .fE rfl ?_ | exact RenO.mB _ | exact RenO.mB [] | fail))
   ·rw [lA]; rfl
   ·have e := decode_tail s pos hlt
    rw [List.map_append]
    congr 1
    have h' : (Utf8.decode s pos).1 = 65533 := by omega
    simp [cSpot, spotAt, e, h']
    omega
  ·(refine w_ren [(1, 4), (0, 0)] rfl (by rw [hp]; intro j hj; cases hj) rfl ?_ ?_ <;> repeat' (first | exact .nil | exact .f _ rfl | exact .s _ _ _ _ _ _ rfl | exact .p _ _ _ rfl | exact .rows _ _ _ | exact .iter _ _ | exact RenL.nil _ | refine RenL.cons ?_ ?_ | refine .cells _ _ _ ?_ | refine .cons _ _ _ _ rfl ?_ ?_ | refine .cons _ _ _ _ _ rfl rfl ?_ ?_ | refine .rowsE ?_ | refine .sE rfl ?_ | exact .m _ _ rfl | refine .fE rfl ?_ | exact RenO.mB _ | exact RenO.mB [] | fail))
   ·rw [lA]; rfl
   ·rw [List.map_append]
    congr 1
    have h' : (Utf8.decode s pos).1 ≠ 65533 := by omega
    simp [cSpot, spotAt, decode_len s pos h', h']
 ·repeat' (first | refine ts_seq (fun K hK hW => ?_) | refine ts_reg ?_ | refine tr_nil ?_ | refine tr_ev rfl ?_ | refine use_K (by assumption) ?_ | refine tr_guard_u rfl ?_ | refine gY rfl rfl ?_ | refine gN rfl rfl ?_ | refine tr_alloc rfl ?_ | refine tr_store rfl rfl rfl rfl rfl rfl rfl ?_ | refine qT rfl rfl ?_ | refine qF rfl rfl ?_ | refine ts_nop ?_ | refine ts_block ?_ | refine ts_exit ?_ | refine ts_ret ?_ | refine th_exit ?_ | refine th_ret ?_ | refine bl_normal ?_ | refine bl_ret ?_ | refine bl_hit ?_ | refine bl_miss rfl ?_ | refine tret_of (.inr rfl) rfl ?_ | refine tr_next_end rfl rfl rfl hlt ?_ | fail)
  rw [spots_stop _ _ _ _ hlt, List.append_nil] at he
  rw [← he]
  exact .s _ _ _ _ _ _ rfl (by rw [lM])
end
end Go.Proofs.YtnphhelbianjpaaGreatDoor
namespace Go.Proofs.YtnphhelbianjpaaGreatDoor
set_option maxRecDepth 20000
open Go Go.Proofs.YtnphhelbianjpaaGreatDoor.V Go.Proofs
section
attribute [local irreducible] TwS TwR thenT inBlockT retT
variable {G : World → Prop}

def strip (x : Spot) : Spot := ⟨x.rune, x.at', x.size, x.line, x.col, false⟩
def opened (x : Spot) : Spot := ⟨x.rune, x.at', 0, x.line, x.col, false⟩

theorem spots_step (s : ByteArray) (pos : Nat) (lc : Int × Int) (hlt : pos < s.size) : spotsOf s (s.size - pos) pos lc = spotAt s pos lc :: spotsOf s (s.size - (pos + (Utf8.decode s pos).2)) (pos + (Utf8.decode s pos).2) (stepN lc (Utf8.decode s pos).1) := by
 have := decode_pos s pos
 rw [show s.size - pos = (s.size - pos - 1) + 1 by omega, spotsOf, if_pos hlt]
 rw [spots_more _ _ (s.size - (pos + (Utf8.decode s pos).2)) _ _ (by omega) (by omega)]

theorem stepN_yes (lc : Int × Int) (r : Nat) (h : (r : Int) = 10) : stepN lc r = (lc.1 + 1, 1) := if_pos (by omega)
theorem stepN_no (lc : Int × Int) (r : Nat) (h : ¬ (r : Int) = 10) : stepN lc r = (lc.1, lc.2 + 1) := if_neg (by omega)

structure SpInv (s : ByteArray) (m pos : Nat) (lc : Int × Int) (ys : List Spot) (o : Option Spot) : Prop where
 fm : m = s.size - pos
 fall : ys ++ o.toList ++ spotsOf s m pos lc = spots s
 flast : ∀ z, o = some z → z.at' + z.size = pos
 fnone : o = none → ys = []
 f1 : 0 ≤ lc.1 ∧ lc.1 ≤ pos + 1
 f2 : 0 ≤ lc.2 ∧ lc.2 ≤ pos + 1
 fpos : pos ≤ s.size
 flen : ys.length + o.toList.length ≤ pos

theorem spots_spec2 (s : ByteArray) (hs : s.size ≤ 1000000000000) : Pure prog G 92 [.v (.string s)] (.lst 6 ((spots s).map cSpot)) := by
 refine Pure.at mixedOk F92 rfl fun C hP hG hp => ?_
 simp only [F92, targEnv, Nat.zero_add, Nat.reduceAdd]
 repeat' (first | refine ts_seq (fun K hK hW => ?_) | refine ts_reg ?_ | refine tr_nil ?_ | refine tr_ev rfl ?_ | refine use_K (by assumption) ?_ | refine tr_guard_u rfl ?_ | refine gY rfl rfl ?_ | refine gN rfl rfl ?_ | refine tr_alloc rfl ?_ | refine tr_store rfl rfl rfl rfl rfl rfl rfl ?_ | refine qT rfl rfl ?_ | refine qF rfl rfl ?_ | refine ts_nop ?_ | refine ts_block ?_ | refine ts_exit ?_ | refine ts_ret ?_ | refine th_exit ?_ | refine th_ret ?_ | refine bl_normal ?_ | refine bl_ret ?_ | refine bl_hit ?_ | refine bl_miss rfl ?_ | refine tret_of (.inr rfl) rfl ?_ | fail)
 refine ts_loop (fun m env σ => ∃ (pos : Nat) (lc : Int × Int) (ys : List Spot) (o : Option Spot), env = [(0, .v (.string s)), (3, .s 1 6 0 (ys.length + o.toList.length) true), (4, .v (.int .i64 lc.1)), (5, .v (.int .i64 lc.2)), (10, .p 0 0)] ∧
  σ = ⟨[(1, .rows 6 ((ys.map strip ++ o.toList.map opened).map cSpot) 156), (0, .iter s pos)], 2⟩ ∧ SpInv s m pos lc ys o)
  s.size ((w_virt (d := 3) 6 156 rfl).trans (w_sub [0, 3, 4, 5, 10] rfl)) ⟨0, (1, 1), [], none, rfl, rfl, rfl, rfl, by simp, by simp, by simp, by simp, by simp, by simp⟩ ?_
 rintro m env σ ⟨pos, lc, ys, o, rfl, rfl, hI⟩
 have hm := hI.fm
 subst hm
 have hb1 := hI.f1; have hb2 := hI.f2; have hb3 := hI.fpos; have hb4 := hI.flen
 by_cases hlt : pos < s.size
 ·have hd := decode_pos s pos
  have hinv : ∀ ys', ys' = ys ++ o.toList → SpInv s (s.size - (pos + (Utf8.decode s pos).2)) (pos + (Utf8.decode s pos).2) (stepN lc (Utf8.decode s pos).1) ys' (some (spotAt s pos lc)) := by
   rintro ys' rfl
   refine ⟨rfl, ?_, ?_, by simp, ?_, ?_, decode_fit hlt, ?_⟩
   ·rw [← hI.fall, spots_step s pos lc hlt]; simp
   ·intro z hz; cases hz; rfl
   ·simp only [stepN]; split <;> simp only <;> omega
   ·simp only [stepN]; split <;> simp only <;> omega
   ·simp at hb4 ⊢; omega
  cases o with
  | none =>
   have hy := hI.fnone rfl
   subst hy
   repeat' (first | refine ts_seq (fun K hK hW => ?_) | refine ts_reg ?_ | refine tr_nil ?_ | refine tr_ev rfl ?_ | refine use_K (by assumption) ?_ | refine tr_guard_u rfl ?_ | refine gY rfl rfl ?_ | refine gN rfl rfl ?_ | refine tr_alloc rfl ?_ | refine tr_store rfl rfl rfl rfl rfl rfl rfl ?_ | refine qT rfl rfl ?_ | refine qF rfl rfl ?_ | refine ts_nop ?_ | refine ts_block ?_ | refine ts_exit ?_ | refine ts_ret ?_ | refine th_exit ?_ | refine th_ret ?_ | refine bl_normal ?_ | refine bl_ret ?_ | refine bl_hit ?_ | refine bl_miss rfl ?_ | refine tret_of (.inr rfl) rfl ?_ | refine tr_next rfl rfl rfl hlt ?_ | refine tr_append rfl rfl rfl (.inr (.inr ⟨_, _, _, _, rfl, rfl, rfl⟩)) (by simp) rfl ?_ | (refine gS rfl (fun h => ?_) (fun h => ?_) <;> try simp only [bs0, beq_iff_eq] at h) | (refine ts_cond rfl (fun h => ?_) (fun h => ?_) <;> try simp only [bs0, beq_iff_eq] at h) | fail)
   all_goals refine loop_again (m' := s.size - (pos + (Utf8.decode s pos).2)) (by omega) ?_ ⟨pos + (Utf8.decode s pos).2, stepN lc (Utf8.decode s pos).1, [], some (spotAt s pos lc), rfl, rfl, hinv _ rfl⟩
   all_goals (refine w_ren [(1, 3), (0, 0)] rfl (by rw [hp]; intro j hj; cases hj) rfl ?_ ?_ <;> repeat' (first | exact .nil | exact .f _ rfl | exact .s _ _ _ _ _ _ rfl | exact .p _ _ _ rfl | exact .rows _ _ _ | exact .iter _ _ | exact RenL.nil _ | refine RenL.cons ?_ ?_ | refine .cells _ _ _ ?_ | refine .cons _ _ _ _ rfl ?_ ?_ | refine .cons _ _ _ _ _ rfl rfl ?_ ?_ | refine .rowsE ?_ | refine .sE rfl ?_ | exact .m _ _ rfl | refine .fE rfl ?_ | exact RenO.mB _ | exact RenO.mB [] | fail))
   all_goals first | rw [stepN_yes _ _ (by assumption)] | rw [stepN_no _ _ (by assumption)]
   all_goals first | rfl | (rw [w64 (by omega)])
  | some z =>
   have hz := hI.flast z rfl
   have hlen : ys.length + (some z).toList.length = ys.length + 1 := rfl
   have hget : ((ys.map strip ++ (some z).toList.map opened).map cSpot)[ys.length]? = some (cSpot (opened z)) := by
    simp
   have hset : ((ys.map strip ++ (some z).toList.map opened).map cSpot).set ys.length (cSpot (strip z)) = ((ys ++ [z]).map strip).map cSpot := by
    simp
   repeat' (first | refine ts_seq (fun K hK hW => ?_) | refine ts_reg ?_ | refine tr_nil ?_ | refine tr_ev rfl ?_ | refine use_K (by assumption) ?_ | refine tr_guard_u rfl ?_ | refine gY rfl rfl ?_ | refine gN rfl rfl ?_ | refine tr_alloc rfl ?_ | refine tr_store rfl rfl rfl rfl rfl rfl rfl ?_ | refine qT rfl rfl ?_ | refine qF rfl rfl ?_ | refine ts_nop ?_ | refine ts_block ?_ | refine ts_exit ?_ | refine ts_ret ?_ | refine th_exit ?_ | refine th_ret ?_ | refine bl_normal ?_ | refine bl_ret ?_ | refine bl_hit ?_ | refine bl_miss rfl ?_ | refine tret_of (.inr rfl) rfl ?_ | refine tr_next rfl rfl rfl hlt ?_ | refine lT (tl_ixo (m := ys.length) rfl rfl (by rw [hlen, w64 (by omega)]; omega) (by omega)) ?_ | refine lT (tl_ldE rfl rfl hget rfl) ?_ | refine tr_storeE rfl rfl hget rfl rfl rfl rfl rfl rfl ?_ | refine tr_append rfl rfl (by simp) (.inr (.inr ⟨_, _, _, _, rfl, rfl, rfl⟩)) (by simp; omega) rfl ?_ | (refine gS rfl (fun h => ?_) (fun h => ?_) <;> try simp only [bs0, beq_iff_eq] at h) | (refine ts_cond rfl (fun h => ?_) (fun h => ?_) <;> try simp only [bs0, beq_iff_eq] at h) | fail)
   all_goals try (exfalso; rw [hlen] at *; omega)
   all_goals refine loop_again (m' := s.size - (pos + (Utf8.decode s pos).2)) (by omega) ?_ ⟨pos + (Utf8.decode s pos).2, stepN lc (Utf8.decode s pos).1, ys ++ [z], some (spotAt s pos lc), rfl, rfl, hinv _ rfl⟩
   all_goals (refine w_ren [(1, 3), (0, 0)] rfl (by rw [hp]; intro j hj; cases hj) rfl ?_ ?_ <;> repeat' (first | exact .nil | exact .f _ rfl | exact .s _ _ _ _ _ _ rfl | exact .p _ _ _ rfl | exact .rows _ _ _ | exact .iter _ _ | exact RenL.nil _ | refine RenL.cons ?_ ?_ | refine .cells _ _ _ ?_ | refine .cons _ _ _ _ rfl ?_ ?_ | refine .cons _ _ _ _ _ rfl rfl ?_ ?_ | refine .rowsE ?_ | refine .sE rfl ?_ | exact .m _ _ rfl | refine .fE rfl ?_ | exact RenO.mB _ | exact RenO.mB [] | fail))
   all_goals try (first | rw [stepN_yes _ _ (by assumption)] | rw [stepN_no _ _ (by assumption)])
   all_goals try (first | rfl | (rw [w64 (by omega)]; done))
   all_goals try (simp only [lA]; rfl)
   all_goals
    have hw : IntKind.i64.wrap ((pos : Int) - ((opened z).at' : Int)) = (z.size : Int) := by
     have : (opened z).at' = z.at' := rfl
     rw [this, w64 (by omega)]; omega
    rw [hw]
    exact (congrArg (· ++ [_]) hset).trans (by simp [cSpot, opened, spotAt])
 ·have hall := hI.fall
  rw [spots_stop _ _ _ _ hlt, List.append_nil] at hall
  have hsl : (spots s).length ≤ s.size := spots_len ..
  cases o with
  | none =>
   have hy := hI.fnone rfl
   subst hy
   have hnil : spots s = [] := hall.symm
   repeat' (first | refine ts_seq (fun K hK hW => ?_) | refine ts_reg ?_ | refine tr_nil ?_ | refine tr_ev rfl ?_ | refine use_K (by assumption) ?_ | refine tr_guard_u rfl ?_ | refine gY rfl rfl ?_ | refine gN rfl rfl ?_ | refine tr_alloc rfl ?_ | refine tr_store rfl rfl rfl rfl rfl rfl rfl ?_ | refine qT rfl rfl ?_ | refine qF rfl rfl ?_ | refine ts_nop ?_ | refine ts_block ?_ | refine ts_exit ?_ | refine ts_ret ?_ | refine th_exit ?_ | refine th_ret ?_ | refine bl_normal ?_ | refine bl_ret ?_ | refine bl_hit ?_ | refine bl_miss rfl ?_ | refine tret_of (.inr rfl) rfl ?_ | refine tr_next_end rfl rfl rfl hlt ?_ | (refine gS rfl (fun h => ?_) (fun h => ?_) <;> try simp only [bs0, beq_iff_eq] at h) | (refine ts_cond rfl (fun h => ?_) (fun h => ?_) <;> try simp only [bs0, beq_iff_eq] at h) | fail)
   refine ts_loop (fun m env σ => m = 0 ∧ env = [(3, .s 1 6 0 0 true), (8, tI 0)] ∧ σ = ⟨[(1, .rows 6 [] 156)], 2⟩) 0 ?_ ⟨rfl, rfl, rfl⟩ ?_
   ·(refine w_ren [(1, 1)] rfl (by rw [hp]; intro j hj; cases hj) rfl ?_ ?_ <;> repeat' (first | exact .nil | exact .f _ rfl | exact .s _ _ _ _ _ _ rfl | exact .p _ _ _ rfl | exact .rows _ _ _ | exact .iter _ _ | exact RenL.nil _ | refine RenL.cons ?_ ?_ | refine .cells _ _ _ ?_ | refine .cons _ _ _ _ rfl ?_ ?_ | refine .cons _ _ _ _ _ rfl rfl ?_ ?_ | refine .rowsE ?_ | refine .sE rfl ?_ | exact .m _ _ rfl | refine .fE rfl ?_ | exact RenO.mB _ | exact RenO.mB [] | fail))
   ·rintro m env σ ⟨rfl, rfl, rfl⟩
    repeat' (first | refine ts_seq (fun K hK hW => ?_) | refine ts_reg ?_ | refine tr_nil ?_ | refine tr_ev rfl ?_ | refine use_K (by assumption) ?_ | refine tr_guard_u rfl ?_ | refine gY rfl rfl ?_ | refine gN rfl rfl ?_ | refine tr_alloc rfl ?_ | refine tr_store rfl rfl rfl rfl rfl rfl rfl ?_ | refine qT rfl rfl ?_ | refine qF rfl rfl ?_ | refine ts_nop ?_ | refine ts_block ?_ | refine ts_exit ?_ | refine ts_ret ?_ | refine th_exit ?_ | refine th_ret ?_ | refine bl_normal ?_ | refine bl_ret ?_ | refine bl_hit ?_ | refine bl_miss rfl ?_ | refine tret_of (.inr rfl) rfl ?_ | (refine gS rfl (fun h => ?_) (fun h => ?_) <;> try simp only [bs0, beq_iff_eq] at h) | (refine ts_cond rfl (fun h => ?_) (fun h => ?_) <;> try simp only [bs0, beq_iff_eq] at h) | fail)
    rw [hnil]
    exact .s _ _ _ _ _ _ rfl rfl
  | some z =>
   have hz := hI.flast z rfl
   have hlen : ys.length + (some z).toList.length = ys.length + 1 := rfl
   have hsp : spots s = ys ++ [z] := hall.symm
   have hget : ((ys.map strip ++ (some z).toList.map opened).map cSpot)[ys.length]? = some (cSpot (opened z)) := by
    simp
   have hset : ((ys.map strip ++ (some z).toList.map opened).map cSpot).set ys.length (cSpot (strip z)) = ((spots s).map strip).map cSpot := by
    rw [hsp]; simp
   have hw : IntKind.i64.wrap ((s.size : Int) - ((opened z).at' : Int)) = (z.size : Int) := by
    have : (opened z).at' = z.at' := rfl
    rw [this, w64 (by omega)]; omega
   repeat' (first | refine ts_seq (fun K hK hW => ?_) | refine ts_reg ?_ | refine tr_nil ?_ | refine tr_ev rfl ?_ | refine use_K (by assumption) ?_ | refine tr_guard_u rfl ?_ | refine gY rfl rfl ?_ | refine gN rfl rfl ?_ | refine tr_alloc rfl ?_ | refine tr_store rfl rfl rfl rfl rfl rfl rfl ?_ | refine qT rfl rfl ?_ | refine qF rfl rfl ?_ | refine ts_nop ?_ | refine ts_block ?_ | refine ts_exit ?_ | refine ts_ret ?_ | refine th_exit ?_ | refine th_ret ?_ | refine bl_normal ?_ | refine bl_ret ?_ | refine bl_hit ?_ | refine bl_miss rfl ?_ | refine tret_of (.inr rfl) rfl ?_ | refine tr_next_end rfl rfl rfl hlt ?_ | refine lT (tl_ixo (m := ys.length) rfl rfl (by rw [hlen, w64 (by omega)]; omega) (by omega)) ?_ | refine lT (tl_ldE rfl rfl hget rfl) ?_ | refine tr_storeE rfl rfl hget rfl rfl rfl rfl rfl rfl ?_ | (refine gS rfl (fun h => ?_) (fun h => ?_) <;> try simp only [bs0, beq_iff_eq] at h) | (refine ts_cond rfl (fun h => ?_) (fun h => ?_) <;> try simp only [bs0, beq_iff_eq] at h) | fail)
   all_goals try (exfalso; rw [hlen] at *; omega)
   refine ts_loop (fun m env σ => ∃ i : Nat, m = (spots s).length - i ∧ i ≤ (spots s).length ∧ env = [(3, .s 1 6 0 (spots s).length true), (8, tI i)] ∧ σ = ⟨[(1, .rows 6 (((spots s).take i ++ ((spots s).drop i).map strip).map cSpot) 156)], 2⟩) (spots s).length ?_ ⟨0, rfl, by omega, rfl, rfl⟩ ?_
   ·(refine w_ren [(1, 1)] rfl (by rw [hp]; intro j hj; cases hj) rfl ?_ ?_ <;> repeat' (first | exact .nil | exact .f _ rfl | exact .s _ _ _ _ _ _ rfl | exact .p _ _ _ rfl | exact .rows _ _ _ | exact .iter _ _ | exact RenL.nil _ | refine RenL.cons ?_ ?_ | refine .cells _ _ _ ?_ | refine .cons _ _ _ _ rfl ?_ ?_ | refine .cons _ _ _ _ _ rfl rfl ?_ ?_ | refine .rowsE ?_ | refine .sE rfl ?_ | exact .m _ _ rfl | refine .fE rfl ?_ | exact RenO.mB _ | exact RenO.mB [] | fail))
    ·rw [hsp, lA]; rfl
    ·rw [hw]; exact hset
   ·rintro m env σ ⟨i, rfl, hi, rfl, rfl⟩
    by_cases hlt2 : i < (spots s).length
    ·have hg : (spots s)[i]? = some (spots s)[i] := List.getElem?_eq_getElem hlt2
     have hbad := spots_bad s _ _ _ _ (List.getElem_mem hlt2)
     generalize (spots s)[i] = x at hg hbad
     have hget2 : (((spots s).take i ++ ((spots s).drop i).map strip).map cSpot)[i]? = some (cSpot (strip x)) := by
      rw [List.getElem?_map, List.getElem?_append_right (by simp; omega)]
      simp [hg, Nat.min_eq_left hi]
     have hset2 : (((spots s).take i ++ ((spots s).drop i).map strip).map cSpot).set i (cSpot x) = ((spots s).take (i + 1) ++ ((spots s).drop (i + 1)).map strip).map cSpot := by
      have hdr : (spots s).drop i = x :: (spots s).drop (i + 1) := by
       have e := List.drop_eq_getElem_cons hlt2
       rw [List.getElem?_eq_getElem hlt2] at hg
       rw [e, Option.some.inj hg]
      have htk : (spots s).take (i + 1) = (spots s).take i ++ [x] := by rw [List.take_add_one, hg]; rfl
      have hl : ((spots s).take i).length = i := by rw [List.length_take]; omega
      rw [hdr, htk, List.map_cons, List.map_append, List.map_cons, List.set_append_right _ _ (by rw [lM]; omega), lM, hl, Nat.sub_self, List.set_cons_zero, List.append_assoc, List.map_append, List.map_append]
      rfl
     repeat' (first | refine ts_seq (fun K hK hW => ?_) | refine ts_reg ?_ | refine tr_nil ?_ | refine tr_ev rfl ?_ | refine use_K (by assumption) ?_ | refine tr_guard_u rfl ?_ | refine gY rfl rfl ?_ | refine gN rfl rfl ?_ | refine tr_alloc rfl ?_ | refine tr_store rfl rfl rfl rfl rfl rfl rfl ?_ | refine qT rfl rfl ?_ | refine qF rfl rfl ?_ | refine ts_nop ?_ | refine ts_block ?_ | refine ts_exit ?_ | refine ts_ret ?_ | refine th_exit ?_ | refine th_ret ?_ | refine bl_normal ?_ | refine bl_ret ?_ | refine bl_hit ?_ | refine bl_miss rfl ?_ | refine tret_of (.inr rfl) rfl ?_ | refine qT rfl (dT (by omega)) ?_ | refine lT (tl_ixo (m := i) rfl rfl rfl hlt2) ?_ | refine lT (tl_ldE rfl rfl hget2 rfl) ?_ | refine tr_storeE rfl rfl hget2 rfl rfl rfl rfl rfl rfl ?_ | (refine gS rfl (fun h => ?_) (fun h => ?_) <;> try simp only [bs0, beq_iff_eq] at h) | (refine ts_cond rfl (fun h => ?_) (fun h => ?_) <;> try simp only [bs0, beq_iff_eq] at h) | fail)
     all_goals refine loop_again (m' := (spots s).length - (i + 1)) (by omega) ?_ ⟨i + 1, rfl, by omega, rfl, rfl⟩
     all_goals (refine w_ren [(1, 1)] rfl (by rw [hp]; intro j hj; cases hj) rfl ?_ ?_ <;> repeat' (first | exact .nil | exact .f _ rfl | exact .s _ _ _ _ _ _ rfl | exact .p _ _ _ rfl | exact .rows _ _ _ | exact .iter _ _ | exact RenL.nil _ | refine RenL.cons ?_ ?_ | refine .cells _ _ _ ?_ | refine .cons _ _ _ _ rfl ?_ ?_ | refine .cons _ _ _ _ _ rfl rfl ?_ ?_ | refine .rowsE ?_ | refine .sE rfl ?_ | exact .m _ _ rfl | refine .fE rfl ?_ | exact RenO.mB _ | exact RenO.mB [] | fail))
     all_goals try (rw [w64 (by omega)]; rfl)
     all_goals refine Eq.trans (congrArg (List.set _ i) ?_) hset2
     all_goals
      have h' := h
      simp only [strip] at h'
      refine congrArg (fun b => [TV.v (Value.int IntKind.i32 (x.rune : Int)), tI x.at', tI x.size, tI x.line, tI x.col, tB b]) ?_
      rw [hbad]
     ·show decide ((x.size : Int) = 1) = _
      exact (by rw [Bool.eq_iff_iff]; simp only [decide_eq_true_eq, Bool.and_eq_true, Bool.or_eq_true, Bool.not_eq_true', decide_eq_false_iff_not, Bool.false_eq_true, true_iff, iff_true, false_iff, iff_false]; omega)
     ·exact (by rw [Bool.eq_iff_iff]; simp only [decide_eq_true_eq, Bool.and_eq_true, Bool.or_eq_true, Bool.not_eq_true', decide_eq_false_iff_not, Bool.false_eq_true, true_iff, iff_true, false_iff, iff_false]; omega)
    ·repeat' (first | refine ts_seq (fun K hK hW => ?_) | refine ts_reg ?_ | refine tr_nil ?_ | refine tr_ev rfl ?_ | refine use_K (by assumption) ?_ | refine tr_guard_u rfl ?_ | refine gY rfl rfl ?_ | refine gN rfl rfl ?_ | refine tr_alloc rfl ?_ | refine tr_store rfl rfl rfl rfl rfl rfl rfl ?_ | refine qT rfl rfl ?_ | refine qF rfl rfl ?_ | refine ts_nop ?_ | refine ts_block ?_ | refine ts_exit ?_ | refine ts_ret ?_ | refine th_exit ?_ | refine th_ret ?_ | refine bl_normal ?_ | refine bl_ret ?_ | refine bl_hit ?_ | refine bl_miss rfl ?_ | refine tret_of (.inr rfl) rfl ?_ | refine qF rfl (dF (by omega)) ?_ | (refine gS rfl (fun h => ?_) (fun h => ?_) <;> try simp only [bs0, beq_iff_eq] at h) | (refine ts_cond rfl (fun h => ?_) (fun h => ?_) <;> try simp only [bs0, beq_iff_eq] at h) | fail)
     have : i = (spots s).length := by omega
     subst this
     rw [List.take_length, List.drop_length, List.map_nil, List.append_nil]
     exact .s _ _ _ _ _ _ rfl (by rw [lM])
end
end Go.Proofs.YtnphhelbianjpaaGreatDoor
namespace Go.Proofs.YtnphhelbianjpaaGreatDoor
set_option maxRecDepth 20000
open Go Go.Proofs.YtnphhelbianjpaaGreatDoor.V Go.Proofs

def rw1 (l : List ByteArray) : List (List TV) := l.map fun s => [tS s]
def regsL : List ByteArray := [bs [114, 97, 120], bs [114, 98, 120], bs [114, 99, 120], bs [114, 100, 120], bs [114, 115, 105], bs [114, 100, 105], bs [114, 56], bs [114, 57]]
def opsL : List ByteArray := [bs [109, 111, 118], bs [97, 100, 100], bs [115, 117, 98], bs [97, 110, 100], bs [111, 114], bs [120, 111, 114], bs [99, 109, 112], bs [120, 99, 104, 103], bs [99, 109, 112, 120, 99, 104, 103], bs [106, 109, 112], bs [], bs [109, 102, 101, 110, 99, 101], bs [110, 111, 112], bs [104, 108, 116]]
def jumpsL : List ByteArray := [bs [106, 101], bs [106, 110, 101], bs [106, 108], bs [106, 108, 101], bs [106, 103], bs [106, 103, 101], bs [106, 98], bs [106, 98, 101], bs [106, 97], bs [106, 97, 101]]

def idx : List ByteArray → ByteArray → Option Nat
 | [], _ => none
 | a :: r, s => if a = s then some 0 else (idx r s).map (· + 1)
def idxI (l : List ByteArray) (s : ByteArray) : Int := match idx l s with
 | some i => (i : Int)
 | none => -1
theorem idx_some : ∀ {l : List ByteArray} {s : ByteArray} {i : Nat}, l[i]? = some s → (∀ (j : Nat) (w : ByteArray), j < i → l[j]? = some w → w ≠ s) → idx l s = some i
 | [], _, _, h, _ => by simp at h
 | a :: r, s, 0, h, _ => by simp at h; simp [idx, h]
 | a :: r, s, i + 1, h, hn => by
  have h0 := hn 0 a (by omega) rfl
  rw [idx, if_neg h0, idx_some (i := i) (by simpa using h) fun j w hj hw => hn (j + 1) w (by omega) (by simpa using hw)]; rfl
theorem idx_none : ∀ {l : List ByteArray} {s : ByteArray}, (∀ (j : Nat) (w : ByteArray), l[j]? = some w → w ≠ s) → idx l s = none
 | [], _, _ => rfl
 | a :: r, s, hn => by
  rw [idx, if_neg (hn 0 a rfl), idx_none fun j w hw => hn (j + 1) w (by simpa using hw)]; rfl
theorem idxI_some {l : List ByteArray} {s : ByteArray} {i : Nat} (h : idx l s = some i) : idxI l s = i := by rw [idxI, h]
theorem idxI_none {l : List ByteArray} {s : ByteArray} (h : idx l s = none) : idxI l s = -1 := by rw [idxI, h]
theorem idx_cons {a s : ByteArray} {r : List ByteArray} (h : a ≠ s) : idx (a :: r) s = (idx r s).map (· + 1) := by rw [idx, if_neg h]

def opOf (s : ByteArray) : Int × Int × Bool := if s = bs [] then (0, 0, false) else match idx opsL s with
 | some i => ((i : Int) + 1, 0, true)
 | none => match idx jumpsL s with
  | some i => (11, (i : Int) + 1, true)
  | none => (0, 0, false)
theorem op_nil : opOf (bs []) = (0, 0, false) := by rw [opOf, if_pos rfl]
theorem op_some {s : ByteArray} {i : Nat} (h0 : s ≠ bs []) (h : idx opsL s = some i) : opOf s = ((i : Int) + 1, 0, true) := by rw [opOf, if_neg h0, h]
theorem op_jump {s : ByteArray} {i : Nat} (h0 : s ≠ bs []) (h : idx opsL s = none) (h' : idx jumpsL s = some i) : opOf s = (11, (i : Int) + 1, true) := by rw [opOf, if_neg h0, h]; simp only; rw [h']
theorem op_none {s : ByteArray} (h : idx opsL s = none) (h' : idx jumpsL s = none) : opOf s = (0, 0, false) := by
 rw [opOf]; split
 ·rfl
 ·rw [h]; simp only; rw [h']
def wordB (s : ByteArray) : Bool := decide (s = bs [115, 121, 109]) || decide (s = bs [116, 104, 114, 101, 97, 100]) || decide (s = bs [108, 111, 99, 107]) || (idx regsL s).isSome || (opOf s).2.2

section
attribute [local irreducible] TwS TwR thenT inBlockT retT idx
variable {G : World → Prop}

theorem regs_spec : Pure prog G 152 [] (.lst 1 (rw1 regsL)) := by
 refine Pure.at mixedOk F152 rfl fun C hP hG hp => ?_
 simp only [F152, targEnv, Nat.zero_add, Nat.reduceAdd]
 repeat' (first | refine ts_seq (fun K hK hW => ?_) | refine ts_reg ?_ | refine tr_nil ?_ | refine tr_ev rfl ?_ | refine use_K (by assumption) ?_ | refine tr_guard_u rfl ?_ | refine gY rfl rfl ?_ | refine gN rfl rfl ?_ | refine tr_alloc rfl ?_ | refine tr_store rfl rfl rfl rfl rfl rfl rfl ?_ | refine qT rfl rfl ?_ | refine qF rfl rfl ?_ | refine ts_nop ?_ | refine ts_block ?_ | refine ts_exit ?_ | refine ts_ret ?_ | refine th_exit ?_ | refine th_ret ?_ | refine bl_normal ?_ | refine bl_ret ?_ | refine bl_hit ?_ | refine bl_miss rfl ?_ | refine tret_of (.inr rfl) rfl ?_ | fail)
 exact .s _ _ _ _ _ _ rfl rfl
theorem regs_spec2 : Pure prog G 118 [] (.lst 1 (rw1 regsL)) := by
 refine Pure.at mixedOk F118 rfl fun C hP hG hp => ?_
 simp only [F118, targEnv, Nat.zero_add, Nat.reduceAdd]
 repeat' (first | refine ts_seq (fun K hK hW => ?_) | refine ts_reg ?_ | refine tr_nil ?_ | refine tr_ev rfl ?_ | refine use_K (by assumption) ?_ | refine tr_guard_u rfl ?_ | refine gY rfl rfl ?_ | refine gN rfl rfl ?_ | refine tr_alloc rfl ?_ | refine tr_store rfl rfl rfl rfl rfl rfl rfl ?_ | refine qT rfl rfl ?_ | refine qF rfl rfl ?_ | refine ts_nop ?_ | refine ts_block ?_ | refine ts_exit ?_ | refine ts_ret ?_ | refine th_exit ?_ | refine th_ret ?_ | refine bl_normal ?_ | refine bl_ret ?_ | refine bl_hit ?_ | refine bl_miss rfl ?_ | refine tret_of (.inr rfl) rfl ?_ | fail)
 exact .s _ _ _ _ _ _ rfl rfl
theorem ops_spec : Pure prog G 153 [] (.lst 1 (rw1 opsL)) := by
 refine Pure.at mixedOk F153 rfl fun C hP hG hp => ?_
 simp only [F153, targEnv, Nat.zero_add, Nat.reduceAdd]
 repeat' (first | refine ts_seq (fun K hK hW => ?_) | refine ts_reg ?_ | refine tr_nil ?_ | refine tr_ev rfl ?_ | refine use_K (by assumption) ?_ | refine tr_guard_u rfl ?_ | refine gY rfl rfl ?_ | refine gN rfl rfl ?_ | refine tr_alloc rfl ?_ | refine tr_store rfl rfl rfl rfl rfl rfl rfl ?_ | refine qT rfl rfl ?_ | refine qF rfl rfl ?_ | refine ts_nop ?_ | refine ts_block ?_ | refine ts_exit ?_ | refine ts_ret ?_ | refine th_exit ?_ | refine th_ret ?_ | refine bl_normal ?_ | refine bl_ret ?_ | refine bl_hit ?_ | refine bl_miss rfl ?_ | refine tret_of (.inr rfl) rfl ?_ | fail)
 exact .s _ _ _ _ _ _ rfl rfl
theorem jumps_spec : Pure prog G 154 [] (.lst 1 (rw1 jumpsL)) := by
 refine Pure.at mixedOk F154 rfl fun C hP hG hp => ?_
 simp only [F154, targEnv, Nat.zero_add, Nat.reduceAdd]
 repeat' (first | refine ts_seq (fun K hK hW => ?_) | refine ts_reg ?_ | refine tr_nil ?_ | refine tr_ev rfl ?_ | refine use_K (by assumption) ?_ | refine tr_guard_u rfl ?_ | refine gY rfl rfl ?_ | refine gN rfl rfl ?_ | refine tr_alloc rfl ?_ | refine tr_store rfl rfl rfl rfl rfl rfl rfl ?_ | refine qT rfl rfl ?_ | refine qF rfl rfl ?_ | refine ts_nop ?_ | refine ts_block ?_ | refine ts_exit ?_ | refine ts_ret ?_ | refine th_exit ?_ | refine th_ret ?_ | refine bl_normal ?_ | refine bl_ret ?_ | refine bl_hit ?_ | refine bl_miss rfl ?_ | refine tret_of (.inr rfl) rfl ?_ | fail)
 exact .s _ _ _ _ _ _ rfl rfl
theorem ops_spec2 : Pure prog G 119 [] (.lst 1 (rw1 (bs [] :: opsL))) := by
 refine Pure.at mixedOk F119 rfl fun C hP hG hp => ?_
 simp only [F119, targEnv, Nat.zero_add, Nat.reduceAdd]
 repeat' (first | refine ts_seq (fun K hK hW => ?_) | refine ts_reg ?_ | refine tr_nil ?_ | refine tr_ev rfl ?_ | refine use_K (by assumption) ?_ | refine tr_guard_u rfl ?_ | refine gY rfl rfl ?_ | refine gN rfl rfl ?_ | refine tr_alloc rfl ?_ | refine tr_store rfl rfl rfl rfl rfl rfl rfl ?_ | refine qT rfl rfl ?_ | refine qF rfl rfl ?_ | refine ts_nop ?_ | refine ts_block ?_ | refine ts_exit ?_ | refine ts_ret ?_ | refine th_exit ?_ | refine th_ret ?_ | refine bl_normal ?_ | refine bl_ret ?_ | refine bl_hit ?_ | refine bl_miss rfl ?_ | refine tret_of (.inr rfl) rfl ?_ | fail)
 exact .s _ _ _ _ _ _ rfl rfl
theorem conds_spec : Pure prog G 120 [] (.lst 1 (rw1 (bs [] :: jumpsL))) := by
 refine Pure.at mixedOk F120 rfl fun C hP hG hp => ?_
 simp only [F120, targEnv, Nat.zero_add, Nat.reduceAdd]
 repeat' (first | refine ts_seq (fun K hK hW => ?_) | refine ts_reg ?_ | refine tr_nil ?_ | refine tr_ev rfl ?_ | refine use_K (by assumption) ?_ | refine tr_guard_u rfl ?_ | refine gY rfl rfl ?_ | refine gN rfl rfl ?_ | refine tr_alloc rfl ?_ | refine tr_store rfl rfl rfl rfl rfl rfl rfl ?_ | refine qT rfl rfl ?_ | refine qF rfl rfl ?_ | refine ts_nop ?_ | refine ts_block ?_ | refine ts_exit ?_ | refine ts_ret ?_ | refine th_exit ?_ | refine th_ret ?_ | refine bl_normal ?_ | refine bl_ret ?_ | refine bl_hit ?_ | refine bl_miss rfl ?_ | refine tret_of (.inr rfl) rfl ?_ | fail)
 exact .s _ _ _ _ _ _ rfl rfl

theorem index_spec (l : List ByteArray) (s : ByteArray) : Pure prog G 97 [.lst 1 (rw1 l), tS s] (tI (idxI l s)) := by
 refine Pure.at mixedOk F97 rfl fun C hP hG hp => ?_
 simp only [F97, targEnv, Nat.zero_add, Nat.reduceAdd]
 refine ts_bound (t := 0) rfl fun hb => ?_
 rw [rw1, lM] at hb
 repeat' (first | refine ts_seq (fun K hK hW => ?_) | refine ts_reg ?_ | refine tr_nil ?_ | refine tr_ev rfl ?_ | refine use_K (by assumption) ?_ | refine tr_guard_u rfl ?_ | refine gY rfl rfl ?_ | refine gN rfl rfl ?_ | refine tr_alloc rfl ?_ | refine tr_store rfl rfl rfl rfl rfl rfl rfl ?_ | refine qT rfl rfl ?_ | refine qF rfl rfl ?_ | refine ts_nop ?_ | refine ts_block ?_ | refine ts_exit ?_ | refine ts_ret ?_ | refine th_exit ?_ | refine th_ret ?_ | refine bl_normal ?_ | refine bl_ret ?_ | refine bl_hit ?_ | refine bl_miss rfl ?_ | refine tret_of (.inr rfl) rfl ?_ | (refine gS rfl (fun h => ?_) (fun h => ?_) <;> try simp only [bs0, beq_iff_eq] at h) | (refine ts_cond rfl (fun h => ?_) (fun h => ?_) <;> try simp only [bs0, beq_iff_eq] at h) | fail)
 refine ts_loop (fun m env σ => ∃ i : Nat, m = l.length - i ∧ i ≤ l.length ∧ env = [(0, .lst 1 (l.map fun s => [tS s])), (1, tS s), (5, tI i)] ∧ σ = ⟨[], 0⟩ ∧ ∀ (j : Nat) (w : ByteArray), j < i → l[j]? = some w → w ≠ s) l.length (w_sub [0, 1, 5] rfl) ⟨0, rfl, by omega, rfl, rfl, fun j w hj => by omega⟩ ?_
 rintro m env σ ⟨i, rfl, hi, rfl, rfl, hn⟩
 by_cases hlt : i < l.length
 ·have hg : l[i]? = some l[i] := List.getElem?_eq_getElem hlt
  generalize l[i] = w at hg
  repeat' (first | refine ts_seq (fun K hK hW => ?_) | refine ts_reg ?_ | refine tr_nil ?_ | refine tr_ev rfl ?_ | refine use_K (by assumption) ?_ | refine tr_guard_u rfl ?_ | refine gY rfl rfl ?_ | refine gN rfl rfl ?_ | refine tr_alloc rfl ?_ | refine tr_store rfl rfl rfl rfl rfl rfl rfl ?_ | refine qT rfl rfl ?_ | refine qF rfl rfl ?_ | refine ts_nop ?_ | refine ts_block ?_ | refine ts_exit ?_ | refine ts_ret ?_ | refine th_exit ?_ | refine th_ret ?_ | refine bl_normal ?_ | refine bl_ret ?_ | refine bl_hit ?_ | refine bl_miss rfl ?_ | refine tret_of (.inr rfl) rfl ?_ | refine qT rfl (dT (by rw [lM]; omega)) ?_ | refine lT (tl_ixm (m := i) rfl rfl rfl hg) ?_ | (refine gS rfl (fun h => ?_) (fun h => ?_) <;> try simp only [bs0, beq_iff_eq] at h) | (refine ts_cond rfl (fun h => ?_) (fun h => ?_) <;> try simp only [bs0, beq_iff_eq] at h) | fail)
  ·subst h
   rw [idxI_some (idx_some hg hn)]; exact .fr rfl
  ·refine loop_again (m' := l.length - (i + 1)) (by omega) ?_ ⟨i + 1, rfl, by omega, rfl, rfl, fun j v hj hv => ?_⟩
   ·(refine w_ren [] rfl (by rw [hp]; intro j hj; cases hj) rfl ?_ ?_ <;> repeat' (first | exact .nil | exact .f _ rfl | exact .s _ _ _ _ _ _ rfl | exact .p _ _ _ rfl | exact .rows _ _ _ | exact .iter _ _ | exact RenL.nil _ | refine RenL.cons ?_ ?_ | refine .cells _ _ _ ?_ | refine .cons _ _ _ _ rfl ?_ ?_ | refine .cons _ _ _ _ _ rfl rfl ?_ ?_ | refine .rowsE ?_ | refine .sE rfl ?_ | exact .m _ _ rfl | refine .fE rfl ?_ | exact RenO.mB _ | exact RenO.mB [] | fail))
    rw [w64 (by omega)]; rfl
   ·rcases Nat.lt_or_ge j i with hji | hji
    ·exact hn j v hji hv
    ·have : j = i := by omega
     subst this; rw [hg] at hv; cases hv; exact h
 ·repeat' (first | refine ts_seq (fun K hK hW => ?_) | refine ts_reg ?_ | refine tr_nil ?_ | refine tr_ev rfl ?_ | refine use_K (by assumption) ?_ | refine tr_guard_u rfl ?_ | refine gY rfl rfl ?_ | refine gN rfl rfl ?_ | refine tr_alloc rfl ?_ | refine tr_store rfl rfl rfl rfl rfl rfl rfl ?_ | refine qT rfl rfl ?_ | refine qF rfl rfl ?_ | refine ts_nop ?_ | refine ts_block ?_ | refine ts_exit ?_ | refine ts_ret ?_ | refine th_exit ?_ | refine th_ret ?_ | refine bl_normal ?_ | refine bl_ret ?_ | refine bl_hit ?_ | refine bl_miss rfl ?_ | refine tret_of (.inr rfl) rfl ?_ | refine qF rfl (dF (by rw [lM]; omega)) ?_ | (refine gS rfl (fun h => ?_) (fun h => ?_) <;> try simp only [bs0, beq_iff_eq] at h) | (refine ts_cond rfl (fun h => ?_) (fun h => ?_) <;> try simp only [bs0, beq_iff_eq] at h) | fail)
  rw [idxI_none (idx_none fun j w hw => hn j w (by have := (List.getElem?_eq_some_iff.1 hw).1; omega) hw)]
  exact .fr rfl

theorem reg_spec (s : ByteArray) : Pure prog G 144 [tS s] (.tup [tI ((idx regsL s).getD 0), tB (idx regsL s).isSome]) := by
 refine Pure.at mixedOk F144 rfl fun C hP hG hp => ?_
 simp only [F144, targEnv, Nat.zero_add, Nat.reduceAdd]
 repeat' (first | refine ts_seq (fun K hK hW => ?_) | refine ts_reg ?_ | refine tr_nil ?_ | refine tr_ev rfl ?_ | refine use_K (by assumption) ?_ | refine tr_guard_u rfl ?_ | refine gY rfl rfl ?_ | refine gN rfl rfl ?_ | refine tr_alloc rfl ?_ | refine tr_store rfl rfl rfl rfl rfl rfl rfl ?_ | refine qT rfl rfl ?_ | refine qF rfl rfl ?_ | refine ts_nop ?_ | refine ts_block ?_ | refine ts_exit ?_ | refine ts_ret ?_ | refine th_exit ?_ | refine th_ret ?_ | refine bl_normal ?_ | refine bl_ret ?_ | refine bl_hit ?_ | refine bl_miss rfl ?_ | refine tret_of (.inr rfl) rfl ?_ | refine cA rfl (by rw [hP]; exact regs_spec) rfl ?_ | (refine gS rfl (fun h => ?_) (fun h => ?_) <;> try simp only [bs0, beq_iff_eq] at h) | (refine ts_cond rfl (fun h => ?_) (fun h => ?_) <;> try simp only [bs0, beq_iff_eq] at h) | fail)
 have hlen : regsL.length = 8 := rfl
 refine ts_loop (fun m env σ => ∃ i : Nat, m = regsL.length - i ∧ i ≤ regsL.length ∧ env = [(0, tS s), (6, .lst 1 (regsL.map fun s => [tS s])), (7, tI 8), (8, tI i)] ∧ σ = ⟨[], 0⟩ ∧ ∀ (j : Nat) (w : ByteArray), j < i → regsL[j]? = some w → w ≠ s) regsL.length (w_sub [0, 6, 7, 8] rfl) ⟨0, rfl, by omega, rfl, rfl, fun j w hj => by omega⟩ ?_
 rintro m env σ ⟨i, rfl, hi, rfl, rfl, hn⟩
 by_cases hlt : i < regsL.length
 ·have hg : regsL[i]? = some regsL[i] := List.getElem?_eq_getElem hlt
  generalize regsL[i] = w at hg
  repeat' (first | refine ts_seq (fun K hK hW => ?_) | refine ts_reg ?_ | refine tr_nil ?_ | refine tr_ev rfl ?_ | refine use_K (by assumption) ?_ | refine tr_guard_u rfl ?_ | refine gY rfl rfl ?_ | refine gN rfl rfl ?_ | refine tr_alloc rfl ?_ | refine tr_store rfl rfl rfl rfl rfl rfl rfl ?_ | refine qT rfl rfl ?_ | refine qF rfl rfl ?_ | refine ts_nop ?_ | refine ts_block ?_ | refine ts_exit ?_ | refine ts_ret ?_ | refine th_exit ?_ | refine th_ret ?_ | refine bl_normal ?_ | refine bl_ret ?_ | refine bl_hit ?_ | refine bl_miss rfl ?_ | refine tret_of (.inr rfl) rfl ?_ | refine qT rfl (dT (by omega)) ?_ | refine lT (tl_ixm (m := i) rfl rfl rfl hg) ?_ | (refine gS rfl (fun h => ?_) (fun h => ?_) <;> try simp only [bs0, beq_iff_eq] at h) | (refine ts_cond rfl (fun h => ?_) (fun h => ?_) <;> try simp only [bs0, beq_iff_eq] at h) | fail)
  ·subst h
   rw [idx_some hg hn]; exact .fr rfl
  ·refine loop_again (m' := regsL.length - (i + 1)) (by omega) ?_ ⟨i + 1, rfl, by omega, rfl, rfl, fun j v hj hv => ?_⟩
   ·(refine w_ren [] rfl (by rw [hp]; intro j hj; cases hj) rfl ?_ ?_ <;> repeat' (first | exact .nil | exact .f _ rfl | exact .s _ _ _ _ _ _ rfl | exact .p _ _ _ rfl | exact .rows _ _ _ | exact .iter _ _ | exact RenL.nil _ | refine RenL.cons ?_ ?_ | refine .cells _ _ _ ?_ | refine .cons _ _ _ _ rfl ?_ ?_ | refine .cons _ _ _ _ _ rfl rfl ?_ ?_ | refine .rowsE ?_ | refine .sE rfl ?_ | exact .m _ _ rfl | refine .fE rfl ?_ | exact RenO.mB _ | exact RenO.mB [] | fail))
    rw [w64 (by omega)]; rfl
   ·rcases Nat.lt_or_ge j i with hji | hji
    ·exact hn j v hji hv
    ·have : j = i := by omega
     subst this; rw [hg] at hv; cases hv; exact h
 ·repeat' (first | refine ts_seq (fun K hK hW => ?_) | refine ts_reg ?_ | refine tr_nil ?_ | refine tr_ev rfl ?_ | refine use_K (by assumption) ?_ | refine tr_guard_u rfl ?_ | refine gY rfl rfl ?_ | refine gN rfl rfl ?_ | refine tr_alloc rfl ?_ | refine tr_store rfl rfl rfl rfl rfl rfl rfl ?_ | refine qT rfl rfl ?_ | refine qF rfl rfl ?_ | refine ts_nop ?_ | refine ts_block ?_ | refine ts_exit ?_ | refine ts_ret ?_ | refine th_exit ?_ | refine th_ret ?_ | refine bl_normal ?_ | refine bl_ret ?_ | refine bl_hit ?_ | refine bl_miss rfl ?_ | refine tret_of (.inr rfl) rfl ?_ | refine qF rfl (dF (by omega)) ?_ | (refine gS rfl (fun h => ?_) (fun h => ?_) <;> try simp only [bs0, beq_iff_eq] at h) | (refine ts_cond rfl (fun h => ?_) (fun h => ?_) <;> try simp only [bs0, beq_iff_eq] at h) | fail)
  rw [idx_none fun j w hw => hn j w (by have := (List.getElem?_eq_some_iff.1 hw).1; omega) hw]
  exact .fr rfl
end
end Go.Proofs.YtnphhelbianjpaaGreatDoor
namespace Go.Proofs.YtnphhelbianjpaaGreatDoor
set_option maxRecDepth 20000
open Go Go.Proofs.YtnphhelbianjpaaGreatDoor.V Go.Proofs

def okAt (i : Nat) (x : Spot) : Bool := !(x.bad || (!letter x.rune && (decide (i = 0) || !digit x.rune)))
def okAll : Nat → List Spot → Bool
 | _, [] => true
 | i, x :: r => okAt i x && okAll (i + 1) r
def rightB (s : ByteArray) : Bool := okAll 0 (spots s) && decide (1 ≤ (spots s).length ∧ (spots s).length ≤ 16) && !wordB s
theorem okAll_drop {l : List Spot} {i j : Nat} {x : Spot} (h : l[i]? = some x) : okAll j (l.drop i) = (okAt j x && okAll (j + 1) (l.drop (i + 1))) := by
 obtain ⟨hi, rfl⟩ := List.getElem?_eq_some_iff.1 h
 rw [List.drop_eq_getElem_cons hi]; rfl

section
attribute [local irreducible] TwS TwR thenT inBlockT retT idx idxI opOf spots letter digit
variable {G : World → Prop}

theorem pick_spec (n : Int) (m : Nat) (hm : m + 1 < 1000000000) : Pure prog G 25 [tI n, tI ((m + 1 : Nat) : Int)] (tI (n % ((m + 1 : Nat) : Int))) := by
 refine Pure.at mixedOk F25 rfl fun C hP hG hp => ?_
 simp only [F25, targEnv, Nat.zero_add, Nat.reduceAdd]
 have h1 : (m : Int) + 1 = ((m + 1 : Nat) : Int) := by omega
 have h2 : n.tmod ((m + 1 : Nat) : Int) < 0 → n % ((m + 1 : Nat) : Int) = n.tmod ((m + 1 : Nat) : Int) + ((m + 1 : Nat) : Int) := by
  intro h
  have e1 := Int.emod_emod_of_dvd (n.tmod ((m + 1 : Nat) : Int)) (Int.dvd_refl ((m + 1 : Nat) : Int))
  have e2 : n % ((m + 1 : Nat) : Int) = (n.tmod ((m + 1 : Nat) : Int)) % ((m + 1 : Nat) : Int) := by
   have := Int.mul_tdiv_add_tmod n ((m + 1 : Nat) : Int)
   conv => lhs; rw [← this]
   rw [Int.add_comm, Int.add_mul_emod_self_left]
  have e3 := Int.lt_tmod_of_pos n (show (0 : Int) < ((m + 1 : Nat) : Int) by omega)
  rw [e2, ← Int.add_emod_right]
  exact Int.emod_eq_of_lt (by omega) (by omega)
 have h3 : ¬ n.tmod ((m + 1 : Nat) : Int) < 0 → n % ((m + 1 : Nat) : Int) = n.tmod ((m + 1 : Nat) : Int) := by
  intro h
  have e2 : n % ((m + 1 : Nat) : Int) = (n.tmod ((m + 1 : Nat) : Int)) % ((m + 1 : Nat) : Int) := by
   have := Int.mul_tdiv_add_tmod n ((m + 1 : Nat) : Int)
   conv => lhs; rw [← this]
   rw [Int.add_comm, Int.add_mul_emod_self_left]
  have e3 := Int.tmod_lt_of_pos n (show (0 : Int) < ((m + 1 : Nat) : Int) by omega)
  rw [e2]
  exact Int.emod_eq_of_lt (by omega) (by omega)
 have e3 := Int.lt_tmod_of_pos n (show (0 : Int) < ((m + 1 : Nat) : Int) by omega)
 repeat' (first | refine ts_seq (fun K hK hW => ?_) | refine ts_reg ?_ | refine tr_nil ?_ | refine tr_ev rfl ?_ | refine use_K (by assumption) ?_ | refine tr_guard_u rfl ?_ | refine gY rfl rfl ?_ | refine gN rfl rfl ?_ | refine tr_alloc rfl ?_ | refine tr_store rfl rfl rfl rfl rfl rfl rfl ?_ | refine qT rfl rfl ?_ | refine qF rfl rfl ?_ | refine ts_nop ?_ | refine ts_block ?_ | refine ts_exit ?_ | refine ts_ret ?_ | refine th_exit ?_ | refine th_ret ?_ | refine bl_normal ?_ | refine bl_ret ?_ | refine bl_hit ?_ | refine bl_miss rfl ?_ | refine tret_of (.inr rfl) rfl ?_ | (refine gS rfl (fun h => ?_) (fun h => ?_) <;> try simp only [bs0, beq_iff_eq] at h) | (refine ts_cond rfl (fun h => ?_) (fun h => ?_) <;> try simp only [bs0, beq_iff_eq] at h) | fail)
 ·rw [w64 (by omega), h2 h]; exact .fr rfl
 ·rw [h3 h]; exact .fr rfl

end
end Go.Proofs.YtnphhelbianjpaaGreatDoor
namespace Go.Proofs.YtnphhelbianjpaaGreatDoor
set_option maxRecDepth 20000
open Go Go.Proofs.YtnphhelbianjpaaGreatDoor.V Go.Proofs
section
attribute [local irreducible] TwS TwR thenT inBlockT retT idx idxI opOf spots letter digit wordB
variable {G : World → Prop}

theorem op_spec (s : ByteArray) : Pure prog G 145 [tS s] (.tup [tI (opOf s).1, tI (opOf s).2.1, tB (opOf s).2.2]) := by
 refine Pure.at mixedOk F145 rfl fun C hP hG hp => ?_
 simp only [F145, targEnv, Nat.zero_add, Nat.reduceAdd]
 have hl1 : jumpsL.length = 10 := rfl
 have hl2 : opsL.length = 14 := rfl
 by_cases h0 : s = bs []
 ·repeat' (first | refine ts_seq (fun K hK hW => ?_) | refine ts_reg ?_ | refine tr_nil ?_ | refine tr_ev rfl ?_ | refine use_K (by assumption) ?_ | refine tr_guard_u rfl ?_ | refine gY rfl rfl ?_ | refine gN rfl rfl ?_ | refine tr_alloc rfl ?_ | refine tr_store rfl rfl rfl rfl rfl rfl rfl ?_ | refine qT rfl rfl ?_ | refine qF rfl rfl ?_ | refine ts_nop ?_ | refine ts_block ?_ | refine ts_exit ?_ | refine ts_ret ?_ | refine th_exit ?_ | refine th_ret ?_ | refine bl_normal ?_ | refine bl_ret ?_ | refine bl_hit ?_ | refine bl_miss rfl ?_ | refine tret_of (.inr rfl) rfl ?_ | refine cA rfl (by rw [hP]; exact ops_spec) rfl ?_ | refine cA rfl (by rw [hP]; exact jumps_spec) rfl ?_ | (refine gS rfl (fun h => ?_) (fun h => ?_) <;> (try simp only [bs0, beq_iff_eq] at h) <;> try (exfalso; (exact h h0); done)) | (refine ts_cond rfl (fun h => ?_) (fun h => ?_) <;> (try simp only [bs0, beq_iff_eq] at h) <;> try (exfalso; (exact h h0); done)) | fail)
  rw [h0, op_nil]; exact .fr rfl
 repeat' (first | refine ts_seq (fun K hK hW => ?_) | refine ts_reg ?_ | refine tr_nil ?_ | refine tr_ev rfl ?_ | refine use_K (by assumption) ?_ | refine tr_guard_u rfl ?_ | refine gY rfl rfl ?_ | refine gN rfl rfl ?_ | refine tr_alloc rfl ?_ | refine tr_store rfl rfl rfl rfl rfl rfl rfl ?_ | refine qT rfl rfl ?_ | refine qF rfl rfl ?_ | refine ts_nop ?_ | refine ts_block ?_ | refine ts_exit ?_ | refine ts_ret ?_ | refine th_exit ?_ | refine th_ret ?_ | refine bl_normal ?_ | refine bl_ret ?_ | refine bl_hit ?_ | refine bl_miss rfl ?_ | refine tret_of (.inr rfl) rfl ?_ | refine cA rfl (by rw [hP]; exact ops_spec) rfl ?_ | refine cA rfl (by rw [hP]; exact jumps_spec) rfl ?_ | (refine gS rfl (fun h => ?_) (fun h => ?_) <;> (try simp only [bs0, beq_iff_eq] at h) <;> try (exfalso; (exact h0 h); done)) | (refine ts_cond rfl (fun h => ?_) (fun h => ?_) <;> (try simp only [bs0, beq_iff_eq] at h) <;> try (exfalso; (exact h0 h); done)) | fail)
 refine ts_loop (fun m env σ => ∃ i : Nat, m = opsL.length - i ∧ i ≤ opsL.length ∧ env = [(0, tS s), (11, .lst 1 (opsL.map fun s => [tS s])), (12, tI 14), (13, tI i)] ∧ σ = ⟨[], 0⟩ ∧ ∀ (j : Nat) (w : ByteArray), j < i → opsL[j]? = some w → w ≠ s) opsL.length (w_sub [0, 11, 12, 13] rfl) ⟨0, rfl, by omega, rfl, rfl, fun j w hj => by omega⟩ ?_
 rintro m env σ ⟨i, rfl, hi, rfl, rfl, hn⟩
 by_cases hlt : i < opsL.length
 ·have hg : opsL[i]? = some opsL[i] := List.getElem?_eq_getElem hlt
  generalize opsL[i] = w at hg
  repeat' (first | refine ts_seq (fun K hK hW => ?_) | refine ts_reg ?_ | refine tr_nil ?_ | refine tr_ev rfl ?_ | refine use_K (by assumption) ?_ | refine tr_guard_u rfl ?_ | refine gY rfl rfl ?_ | refine gN rfl rfl ?_ | refine tr_alloc rfl ?_ | refine tr_store rfl rfl rfl rfl rfl rfl rfl ?_ | refine qT rfl rfl ?_ | refine qF rfl rfl ?_ | refine ts_nop ?_ | refine ts_block ?_ | refine ts_exit ?_ | refine ts_ret ?_ | refine th_exit ?_ | refine th_ret ?_ | refine bl_normal ?_ | refine bl_ret ?_ | refine bl_hit ?_ | refine bl_miss rfl ?_ | refine tret_of (.inr rfl) rfl ?_ | refine qT rfl (dT (by omega)) ?_ | refine lT (tl_ixm (m := i) rfl rfl rfl hg) ?_ | (refine gS rfl (fun h => ?_) (fun h => ?_) <;> try simp only [bs0, beq_iff_eq] at h) | (refine ts_cond rfl (fun h => ?_) (fun h => ?_) <;> try simp only [bs0, beq_iff_eq] at h) | fail)
  ·subst h
   rw [op_some h0 (idx_some hg hn), w64 (by omega)]; exact .fr rfl
  ·refine loop_again (m' := opsL.length - (i + 1)) (by omega) ?_ ⟨i + 1, rfl, by omega, rfl, rfl, fun j v hj hv => ?_⟩
   ·(refine w_ren [] rfl (by rw [hp]; intro j hj; cases hj) rfl ?_ ?_ <;> repeat' (first | exact .nil | exact .f _ rfl | exact .s _ _ _ _ _ _ rfl | exact .p _ _ _ rfl | exact .rows _ _ _ | exact .iter _ _ | exact RenL.nil _ | refine RenL.cons ?_ ?_ | refine .cells _ _ _ ?_ | refine .cons _ _ _ _ rfl ?_ ?_ | refine .cons _ _ _ _ _ rfl rfl ?_ ?_ | refine .rowsE ?_ | refine .sE rfl ?_ | exact .m _ _ rfl | refine .fE rfl ?_ | exact RenO.mB _ | exact RenO.mB [] | fail))
    rw [w64 (by omega)]; rfl
   ·rcases Nat.lt_or_ge j i with hji | hji
    ·exact hn j v hji hv
    ·have : j = i := by omega
     subst this; rw [hg] at hv; cases hv; exact h
 have e1 := idx_none fun j w hw => hn j w (by have := (List.getElem?_eq_some_iff.1 hw).1; omega) hw
 clear hn
 repeat' (first | refine ts_seq (fun K hK hW => ?_) | refine ts_reg ?_ | refine tr_nil ?_ | refine tr_ev rfl ?_ | refine use_K (by assumption) ?_ | refine tr_guard_u rfl ?_ | refine gY rfl rfl ?_ | refine gN rfl rfl ?_ | refine tr_alloc rfl ?_ | refine tr_store rfl rfl rfl rfl rfl rfl rfl ?_ | refine qT rfl rfl ?_ | refine qF rfl rfl ?_ | refine ts_nop ?_ | refine ts_block ?_ | refine ts_exit ?_ | refine ts_ret ?_ | refine th_exit ?_ | refine th_ret ?_ | refine bl_normal ?_ | refine bl_ret ?_ | refine bl_hit ?_ | refine bl_miss rfl ?_ | refine tret_of (.inr rfl) rfl ?_ | refine qF rfl (dF (by omega)) ?_ | refine cA rfl (by rw [hP]; exact jumps_spec) rfl ?_ | (refine gS rfl (fun h => ?_) (fun h => ?_) <;> try simp only [bs0, beq_iff_eq] at h) | (refine ts_cond rfl (fun h => ?_) (fun h => ?_) <;> try simp only [bs0, beq_iff_eq] at h) | fail)
 refine ts_loop (fun m env σ => ∃ i : Nat, m = jumpsL.length - i ∧ i ≤ jumpsL.length ∧ env = [(0, tS s), (24, .lst 1 (jumpsL.map fun s => [tS s])), (25, tI 10), (26, tI i)] ∧ σ = ⟨[], 0⟩ ∧ ∀ (j : Nat) (w : ByteArray), j < i → jumpsL[j]? = some w → w ≠ s) jumpsL.length (w_sub [0, 24, 25, 26] rfl) ⟨0, rfl, by omega, rfl, rfl, fun j w hj => by omega⟩ ?_
 rintro m env σ ⟨i, rfl, hi, rfl, rfl, hn⟩
 by_cases hlt : i < jumpsL.length
 ·have hg : jumpsL[i]? = some jumpsL[i] := List.getElem?_eq_getElem hlt
  generalize jumpsL[i] = w at hg
  repeat' (first | refine ts_seq (fun K hK hW => ?_) | refine ts_reg ?_ | refine tr_nil ?_ | refine tr_ev rfl ?_ | refine use_K (by assumption) ?_ | refine tr_guard_u rfl ?_ | refine gY rfl rfl ?_ | refine gN rfl rfl ?_ | refine tr_alloc rfl ?_ | refine tr_store rfl rfl rfl rfl rfl rfl rfl ?_ | refine qT rfl rfl ?_ | refine qF rfl rfl ?_ | refine ts_nop ?_ | refine ts_block ?_ | refine ts_exit ?_ | refine ts_ret ?_ | refine th_exit ?_ | refine th_ret ?_ | refine bl_normal ?_ | refine bl_ret ?_ | refine bl_hit ?_ | refine bl_miss rfl ?_ | refine tret_of (.inr rfl) rfl ?_ | refine qT rfl (dT (by omega)) ?_ | refine lT (tl_ixm (m := i) rfl rfl rfl hg) ?_ | (refine gS rfl (fun h => ?_) (fun h => ?_) <;> try simp only [bs0, beq_iff_eq] at h) | (refine ts_cond rfl (fun h => ?_) (fun h => ?_) <;> try simp only [bs0, beq_iff_eq] at h) | fail)
  ·subst h
   rw [op_jump h0 e1 (idx_some hg hn), w64 (by omega)]; exact .fr rfl
  ·refine loop_again (m' := jumpsL.length - (i + 1)) (by omega) ?_ ⟨i + 1, rfl, by omega, rfl, rfl, fun j v hj hv => ?_⟩
   ·(refine w_ren [] rfl (by rw [hp]; intro j hj; cases hj) rfl ?_ ?_ <;> repeat' (first | exact .nil | exact .f _ rfl | exact .s _ _ _ _ _ _ rfl | exact .p _ _ _ rfl | exact .rows _ _ _ | exact .iter _ _ | exact RenL.nil _ | refine RenL.cons ?_ ?_ | refine .cells _ _ _ ?_ | refine .cons _ _ _ _ rfl ?_ ?_ | refine .cons _ _ _ _ _ rfl rfl ?_ ?_ | refine .rowsE ?_ | refine .sE rfl ?_ | exact .m _ _ rfl | refine .fE rfl ?_ | exact RenO.mB _ | exact RenO.mB [] | fail))
    rw [w64 (by omega)]; rfl
   ·rcases Nat.lt_or_ge j i with hji | hji
    ·exact hn j v hji hv
    ·have : j = i := by omega
     subst this; rw [hg] at hv; cases hv; exact h
 have e2 := idx_none fun j w hw => hn j w (by have := (List.getElem?_eq_some_iff.1 hw).1; omega) hw
 repeat' (first | refine ts_seq (fun K hK hW => ?_) | refine ts_reg ?_ | refine tr_nil ?_ | refine tr_ev rfl ?_ | refine use_K (by assumption) ?_ | refine tr_guard_u rfl ?_ | refine gY rfl rfl ?_ | refine gN rfl rfl ?_ | refine tr_alloc rfl ?_ | refine tr_store rfl rfl rfl rfl rfl rfl rfl ?_ | refine qT rfl rfl ?_ | refine qF rfl rfl ?_ | refine ts_nop ?_ | refine ts_block ?_ | refine ts_exit ?_ | refine ts_ret ?_ | refine th_exit ?_ | refine th_ret ?_ | refine bl_normal ?_ | refine bl_ret ?_ | refine bl_hit ?_ | refine bl_miss rfl ?_ | refine tret_of (.inr rfl) rfl ?_ | refine qF rfl (dF (by omega)) ?_ | (refine gS rfl (fun h => ?_) (fun h => ?_) <;> try simp only [bs0, beq_iff_eq] at h) | (refine ts_cond rfl (fun h => ?_) (fun h => ?_) <;> try simp only [bs0, beq_iff_eq] at h) | fail)
 rw [op_none e1 e2]
 exact .fr rfl

end
section
attribute [local irreducible] TwS TwR thenT inBlockT retT idx idxI opOf spots letter digit
variable {G : World → Prop}
set_option maxRecDepth 20000 in
theorem word_spec (s : ByteArray) : Pure prog G 129 [tS s] (tB (wordB s)) := by
 refine Pure.at mixedOk F129 rfl fun C hP hG hp => ?_
 simp only [F129, targEnv, Nat.zero_add, Nat.reduceAdd]
 repeat' (first | refine ts_seq (fun K hK hW => ?_) | refine ts_reg ?_ | refine tr_nil ?_ | refine tr_ev rfl ?_ | refine use_K (by assumption) ?_ | refine tr_guard_u rfl ?_ | refine gY rfl rfl ?_ | refine gN rfl rfl ?_ | refine tr_alloc rfl ?_ | refine tr_store rfl rfl rfl rfl rfl rfl rfl ?_ | refine qT rfl rfl ?_ | refine qF rfl rfl ?_ | refine ts_nop ?_ | refine ts_block ?_ | refine ts_exit ?_ | refine ts_ret ?_ | refine th_exit ?_ | refine th_ret ?_ | refine bl_normal ?_ | refine bl_ret ?_ | refine bl_hit ?_ | refine bl_miss rfl ?_ | refine tret_of (.inr rfl) rfl ?_ | refine cA rfl (by rw [hP]; exact reg_spec _) rfl ?_ | refine cA rfl (by rw [hP]; exact op_spec _) rfl ?_ | (refine gS rfl (fun h => ?_) (fun h => ?_) <;> try simp only [bs0, beq_iff_eq] at h) | (refine ts_cond rfl (fun h => ?_) (fun h => ?_) <;> try simp only [bs0, beq_iff_eq] at h) | fail)
 all_goals refine .vb ?_
 all_goals simp_all [wordB]

theorem word_none (s : ByteArray) (h0 : s ≠ bs []) : wordB s = (decide (s = bs [115, 121, 109]) || decide (s = bs [116, 104, 114, 101, 97, 100]) || decide (s = bs [108, 111, 99, 107]) || (idx regsL s).isSome || (idx opsL s).isSome || (idx jumpsL s).isSome) := by
 have e : (opOf s).2.2 = ((idx opsL s).isSome || (idx jumpsL s).isSome) := by
  cases h1 : idx opsL s with
  | some i => rw [op_some h0 h1]; rfl
  | none =>
   cases h2 : idx jumpsL s with
   | some i => rw [op_jump h0 h1 h2]; rfl
   | none => rw [op_none h1 h2]; rfl
 rw [wordB, e, ← Bool.or_assoc]
theorem idxI_neg {l : List ByteArray} {s : ByteArray} : decide (idxI l s ≥ 0) = (idx l s).isSome := by
 cases h : idx l s with
 | none => rw [idxI_none h]; rfl
 | some i => rw [idxI_some h]; simp
theorem idxI_pos {l : List ByteArray} {s : ByteArray} (h0 : s ≠ bs []) : decide (0 < idxI (bs [] :: l) s) = (idx l s).isSome := by
 have k1 := idx_cons (r := l) (fun e => h0 e.symm : bs [] ≠ s)
 cases h : idx l s with
 | none => rw [h] at k1; rw [idxI_none k1]; rfl
 | some i => rw [h] at k1; rw [idxI_some k1]; simp
theorem word_nil : wordB (bs []) = false := by
 rw [wordB, op_nil]
 have : idx regsL (bs []) = none := by decide +kernel
 rw [this]; decide +kernel
set_option maxRecDepth 20000 in
theorem word_spec2 (s : ByteArray) : Pure prog G 93 [tS s] (tB (wordB s)) := by
 refine Pure.at mixedOk F93 rfl fun C hP hG hp => ?_
 simp only [F93, targEnv, Nat.zero_add, Nat.reduceAdd]
 by_cases h0 : s = bs []
 ·subst h0
  repeat' (first | refine ts_seq (fun K hK hW => ?_) | refine ts_reg ?_ | refine tr_nil ?_ | refine tr_ev rfl ?_ | refine use_K (by assumption) ?_ | refine tr_guard_u rfl ?_ | refine gY rfl rfl ?_ | refine gN rfl rfl ?_ | refine tr_alloc rfl ?_ | refine tr_store rfl rfl rfl rfl rfl rfl rfl ?_ | refine qT rfl rfl ?_ | refine qF rfl rfl ?_ | refine ts_nop ?_ | refine ts_block ?_ | refine ts_exit ?_ | refine ts_ret ?_ | refine th_exit ?_ | refine th_ret ?_ | refine bl_normal ?_ | refine bl_ret ?_ | refine bl_hit ?_ | refine bl_miss rfl ?_ | refine tret_of (.inr rfl) rfl ?_ | (refine gS rfl (fun h => ?_) (fun h => ?_) <;> (try simp only [bs0, beq_iff_eq] at h) <;> try (exfalso; (exact h rfl); done)) | (refine ts_cond rfl (fun h => ?_) (fun h => ?_) <;> (try simp only [bs0, beq_iff_eq] at h) <;> try (exfalso; (exact h rfl); done)) | fail)
  exact .vb (by rw [word_nil])
 have k1 := idxI_pos (l := opsL) h0
 have k2 := idxI_pos (l := jumpsL) h0
 have k3 := idxI_neg (l := regsL) (s := s)
 rw [word_none s h0]
 repeat' (first | refine ts_seq (fun K hK hW => ?_) | refine ts_reg ?_ | refine tr_nil ?_ | refine tr_ev rfl ?_ | refine use_K (by assumption) ?_ | refine tr_guard_u rfl ?_ | refine gY rfl rfl ?_ | refine gN rfl rfl ?_ | refine tr_alloc rfl ?_ | refine tr_store rfl rfl rfl rfl rfl rfl rfl ?_ | refine qT rfl rfl ?_ | refine qF rfl rfl ?_ | refine ts_nop ?_ | refine ts_block ?_ | refine ts_exit ?_ | refine ts_ret ?_ | refine th_exit ?_ | refine th_ret ?_ | refine bl_normal ?_ | refine bl_ret ?_ | refine bl_hit ?_ | refine bl_miss rfl ?_ | refine tret_of (.inr rfl) rfl ?_ | refine cA rfl (by rw [hP]; exact regs_spec2) rfl ?_ | refine cA rfl (by rw [hP]; exact ops_spec2) rfl ?_ | refine cA rfl (by rw [hP]; exact conds_spec) rfl ?_ | refine cA rfl (by rw [hP]; exact index_spec _ _) rfl ?_ | (refine gS rfl (fun h => ?_) (fun h => ?_) <;> (try simp only [bs0, beq_iff_eq] at h) <;> try (exfalso; (exact h0 h); done)) | (refine ts_cond rfl (fun h => ?_) (fun h => ?_) <;> (try simp only [bs0, beq_iff_eq] at h) <;> try (exfalso; (exact h0 h); done)) | fail)
 all_goals refine .vb ?_
 all_goals simp_all
end
end Go.Proofs.YtnphhelbianjpaaGreatDoor
namespace Go.Proofs.YtnphhelbianjpaaGreatDoor
set_option maxRecDepth 20000
open Go Go.Proofs.YtnphhelbianjpaaGreatDoor.V Go.Proofs

theorem okAt_iff {i : Nat} {z : Spot} : okAt i z = true ↔ z.bad = false ∧ (letter z.rune = true ∨ (i ≠ 0 ∧ digit z.rune = true)) := by
 cases h1 : z.bad <;> cases h2 : letter z.rune <;> cases h3 : digit z.rune <;> simp [okAt, h1, h2, h3]
theorem right_no {s : ByteArray} (h : okAll 0 (spots s) = false) : false = rightB s := by rw [rightB, h]; rfl
theorem no_at {i : Nat} {z : Spot} {b : Bool} (h : ¬ okAt i z = true) : (okAt i z && b) = false := by rw [Bool.not_eq_true] at h; rw [h]; rfl

theorem fin_t {n : Nat} {w : Bool} (h : 1 ≤ n ∧ n ≤ 16) : (decide (1 ≤ n ∧ n ≤ 16) && !w) = !w := by rw [dT h, Bool.true_and]
theorem fin_f {n : Nat} {w : Bool} (h : ¬ (1 ≤ n ∧ n ≤ 16)) : (decide (1 ≤ n ∧ n ≤ 16) && !w) = false := by rw [dF h, Bool.false_and]

section
attribute [local irreducible] TwS TwR thenT inBlockT retT idx idxI opOf spots letter digit wordB okAt okAll rightB

set_option maxHeartbeats 1000000 in
theorem right_spec (s : ByteArray) (hs : s.size ≤ 1000000000000) : Pure prog Tabs 108 [tS s] (tB (rightB s)) := by
 have hsl : (spots s).length ≤ s.size := by unfold spots; exact spots_len ..
 refine Pure.at mixedOk F108 rfl fun C hP hG hp => ?_
 simp only [F108, targEnv, Nat.zero_add, Nat.reduceAdd]
 repeat' (first | refine ts_seq (fun K hK hW => ?_) | refine ts_reg ?_ | refine tr_nil ?_ | refine tr_ev rfl ?_ | refine use_K (by assumption) ?_ | refine tr_guard_u rfl ?_ | refine gY rfl rfl ?_ | refine gN rfl rfl ?_ | refine tr_alloc rfl ?_ | refine tr_store rfl rfl rfl rfl rfl rfl rfl ?_ | refine qT rfl rfl ?_ | refine qF rfl rfl ?_ | refine ts_nop ?_ | refine ts_block ?_ | refine ts_exit ?_ | refine ts_ret ?_ | refine th_exit ?_ | refine th_ret ?_ | refine bl_normal ?_ | refine bl_ret ?_ | refine bl_hit ?_ | refine bl_miss rfl ?_ | refine tret_of (.inr rfl) rfl ?_ | refine cA rfl (by rw [hP, hG]; exact spots_spec s hs) rfl ?_ | (refine gS rfl (fun h => ?_) (fun h => ?_) <;> try simp only [bs0, beq_iff_eq] at h) | (refine ts_cond rfl (fun h => ?_) (fun h => ?_) <;> try simp only [bs0, beq_iff_eq] at h) | fail)
 refine ts_loop (fun m env σ => ∃ i : Nat, m = (spots s).length - i ∧ i ≤ (spots s).length ∧ env = [(0, tS s), (3, tI i), (7, .lst 6 ((spots s).map cSpot)), (8, tI ((spots s).map cSpot).length), (9, tI i)] ∧ σ = ⟨[], 0⟩ ∧ okAll 0 (spots s) = okAll i ((spots s).drop i))
  (spots s).length (w_sub [0, 3, 7, 8, 9] rfl) ⟨0, rfl, by omega, rfl, rfl, rfl⟩ ?_
 rintro m env σ ⟨i, rfl, hi, rfl, rfl, hok⟩
 by_cases hlt : i < (spots s).length
 ·have hg : (spots s)[i]? = some (spots s)[i] := List.getElem?_eq_getElem hlt
  generalize (spots s)[i] = z at hg
  rw [okAll_drop hg] at hok
  cases hb : z.bad with
  | true =>
   have hz : ¬ okAt i z = true := by rw [okAt_iff, hb]; simp
   repeat' (first | refine ts_seq (fun K hK hW => ?_) | refine ts_reg ?_ | refine tr_nil ?_ | refine tr_ev rfl ?_ | refine use_K (by assumption) ?_ | refine tr_guard_u rfl ?_ | refine gY rfl rfl ?_ | refine gN rfl rfl ?_ | refine tr_alloc rfl ?_ | refine tr_store rfl rfl rfl rfl rfl rfl rfl ?_ | refine qT rfl rfl ?_ | refine qF rfl rfl ?_ | refine ts_nop ?_ | refine ts_block ?_ | refine ts_exit ?_ | refine ts_ret ?_ | refine th_exit ?_ | refine th_ret ?_ | refine bl_normal ?_ | refine bl_ret ?_ | refine bl_hit ?_ | refine bl_miss rfl ?_ | refine tret_of (.inr rfl) rfl ?_ | refine qT rfl (dT (by rw [lM]; omega)) ?_ | refine lT (tl_ixm (m := i) rfl rfl rfl hg) ?_ | refine cA rfl (by rw [hP]; exact letter_spec _) rfl ?_ | refine cA rfl (by rw [hP]; exact digit_spec _) rfl ?_ | (refine gS rfl (fun h => ?_) (fun h => ?_) <;> (try simp only [bs0, beq_iff_eq] at h) <;> try (exfalso; (first | (rw [hb] at h; cases h; done) | omega); done)) | (refine ts_cond rfl (fun h => ?_) (fun h => ?_) <;> (try simp only [bs0, beq_iff_eq] at h) <;> try (exfalso; (first | (rw [hb] at h; cases h; done) | omega); done)) | fail)
   exact .vb (right_no (by rw [hok]; exact no_at hz))
  | false =>
   cases hl : letter z.rune with
   | true =>
    have hz : okAt i z = true := by rw [okAt_iff, hb, hl]; simp
    repeat' (first | refine ts_seq (fun K hK hW => ?_) | refine ts_reg ?_ | refine tr_nil ?_ | refine tr_ev rfl ?_ | refine use_K (by assumption) ?_ | refine tr_guard_u rfl ?_ | refine gY rfl rfl ?_ | refine gN rfl rfl ?_ | refine tr_alloc rfl ?_ | refine tr_store rfl rfl rfl rfl rfl rfl rfl ?_ | refine qT rfl rfl ?_ | refine qF rfl rfl ?_ | refine ts_nop ?_ | refine ts_block ?_ | refine ts_exit ?_ | refine ts_ret ?_ | refine th_exit ?_ | refine th_ret ?_ | refine bl_normal ?_ | refine bl_ret ?_ | refine bl_hit ?_ | refine bl_miss rfl ?_ | refine tret_of (.inr rfl) rfl ?_ | refine qT rfl (dT (by rw [lM]; omega)) ?_ | refine lT (tl_ixm (m := i) rfl rfl rfl hg) ?_ | refine cA rfl (by rw [hP]; exact letter_spec _) rfl ?_ | refine cA rfl (by rw [hP]; exact digit_spec _) rfl ?_ | (refine gS rfl (fun h => ?_) (fun h => ?_) <;> (try simp only [bs0, beq_iff_eq] at h) <;> try (exfalso; (first | (rw [hb] at h; cases h; done) | (rw [hl] at h; cases h; done) | omega); done)) | (refine ts_cond rfl (fun h => ?_) (fun h => ?_) <;> (try simp only [bs0, beq_iff_eq] at h) <;> try (exfalso; (first | (rw [hb] at h; cases h; done) | (rw [hl] at h; cases h; done) | omega); done)) | fail)
    refine loop_again (m' := (spots s).length - (i + 1)) (by omega) ?_ ⟨i + 1, rfl, by omega, rfl, rfl, by rw [hok, hz, Bool.true_and]⟩
    (refine w_ren [] rfl (by rw [hp]; intro j hj; cases hj) rfl ?_ ?_ <;> repeat' (first | exact .nil | exact .f _ rfl | exact .s _ _ _ _ _ _ rfl | exact .p _ _ _ rfl | exact .rows _ _ _ | exact .iter _ _ | exact RenL.nil _ | refine RenL.cons ?_ ?_ | refine .cells _ _ _ ?_ | refine .cons _ _ _ _ rfl ?_ ?_ | refine .cons _ _ _ _ _ rfl rfl ?_ ?_ | refine .rowsE ?_ | refine .sE rfl ?_ | exact .m _ _ rfl | refine .fE rfl ?_ | exact RenO.mB _ | exact RenO.mB [] | fail))
    all_goals rw [w64 (by omega)]; rfl
   | false =>
    by_cases h0 : i = 0
    ·have hz : ¬ okAt i z = true := by rw [okAt_iff, hb, hl]; simp [h0]
     repeat' (first | refine ts_seq (fun K hK hW => ?_) | refine ts_reg ?_ | refine tr_nil ?_ | refine tr_ev rfl ?_ | refine use_K (by assumption) ?_ | refine tr_guard_u rfl ?_ | refine gY rfl rfl ?_ | refine gN rfl rfl ?_ | refine tr_alloc rfl ?_ | refine tr_store rfl rfl rfl rfl rfl rfl rfl ?_ | refine qT rfl rfl ?_ | refine qF rfl rfl ?_ | refine ts_nop ?_ | refine ts_block ?_ | refine ts_exit ?_ | refine ts_ret ?_ | refine th_exit ?_ | refine th_ret ?_ | refine bl_normal ?_ | refine bl_ret ?_ | refine bl_hit ?_ | refine bl_miss rfl ?_ | refine tret_of (.inr rfl) rfl ?_ | refine qT rfl (dT (by rw [lM]; omega)) ?_ | refine lT (tl_ixm (m := i) rfl rfl rfl hg) ?_ | refine cA rfl (by rw [hP]; exact letter_spec _) rfl ?_ | refine cA rfl (by rw [hP]; exact digit_spec _) rfl ?_ | (refine gS rfl (fun h => ?_) (fun h => ?_) <;> (try simp only [bs0, beq_iff_eq] at h) <;> try (exfalso; (first | (rw [hb] at h; cases h; done) | (rw [hl] at h; cases h; done) | omega); done)) | (refine ts_cond rfl (fun h => ?_) (fun h => ?_) <;> (try simp only [bs0, beq_iff_eq] at h) <;> try (exfalso; (first | (rw [hb] at h; cases h; done) | (rw [hl] at h; cases h; done) | omega); done)) | fail)
     exact .vb (right_no (by rw [hok]; exact no_at hz))
    ·cases hd : digit z.rune with
     | true =>
      have hz : okAt i z = true := by rw [okAt_iff, hb, hl, hd]; simp [h0]
      repeat' (first | refine ts_seq (fun K hK hW => ?_) | refine ts_reg ?_ | refine tr_nil ?_ | refine tr_ev rfl ?_ | refine use_K (by assumption) ?_ | refine tr_guard_u rfl ?_ | refine gY rfl rfl ?_ | refine gN rfl rfl ?_ | refine tr_alloc rfl ?_ | refine tr_store rfl rfl rfl rfl rfl rfl rfl ?_ | refine qT rfl rfl ?_ | refine qF rfl rfl ?_ | refine ts_nop ?_ | refine ts_block ?_ | refine ts_exit ?_ | refine ts_ret ?_ | refine th_exit ?_ | refine th_ret ?_ | refine bl_normal ?_ | refine bl_ret ?_ | refine bl_hit ?_ | refine bl_miss rfl ?_ | refine tret_of (.inr rfl) rfl ?_ | refine qT rfl (dT (by rw [lM]; omega)) ?_ | refine lT (tl_ixm (m := i) rfl rfl rfl hg) ?_ | refine cA rfl (by rw [hP]; exact letter_spec _) rfl ?_ | refine cA rfl (by rw [hP]; exact digit_spec _) rfl ?_ | (refine gS rfl (fun h => ?_) (fun h => ?_) <;> (try simp only [bs0, beq_iff_eq] at h) <;> try (exfalso; (first | (rw [hb] at h; cases h; done) | (rw [hl] at h; cases h; done) | (rw [hd] at h; cases h; done) | omega); done)) | (refine ts_cond rfl (fun h => ?_) (fun h => ?_) <;> (try simp only [bs0, beq_iff_eq] at h) <;> try (exfalso; (first | (rw [hb] at h; cases h; done) | (rw [hl] at h; cases h; done) | (rw [hd] at h; cases h; done) | omega); done)) | fail)
      refine loop_again (m' := (spots s).length - (i + 1)) (by omega) ?_ ⟨i + 1, rfl, by omega, rfl, rfl, by rw [hok, hz, Bool.true_and]⟩
      (refine w_ren [] rfl (by rw [hp]; intro j hj; cases hj) rfl ?_ ?_ <;> repeat' (first | exact .nil | exact .f _ rfl | exact .s _ _ _ _ _ _ rfl | exact .p _ _ _ rfl | exact .rows _ _ _ | exact .iter _ _ | exact RenL.nil _ | refine RenL.cons ?_ ?_ | refine .cells _ _ _ ?_ | refine .cons _ _ _ _ rfl ?_ ?_ | refine .cons _ _ _ _ _ rfl rfl ?_ ?_ | refine .rowsE ?_ | refine .sE rfl ?_ | exact .m _ _ rfl | refine .fE rfl ?_ | exact RenO.mB _ | exact RenO.mB [] | fail))
      all_goals rw [w64 (by omega)]; rfl
     | false =>
      have hz : ¬ okAt i z = true := by rw [okAt_iff, hb, hl, hd]; simp
      repeat' (first | refine ts_seq (fun K hK hW => ?_) | refine ts_reg ?_ | refine tr_nil ?_ | refine tr_ev rfl ?_ | refine use_K (by assumption) ?_ | refine tr_guard_u rfl ?_ | refine gY rfl rfl ?_ | refine gN rfl rfl ?_ | refine tr_alloc rfl ?_ | refine tr_store rfl rfl rfl rfl rfl rfl rfl ?_ | refine qT rfl rfl ?_ | refine qF rfl rfl ?_ | refine ts_nop ?_ | refine ts_block ?_ | refine ts_exit ?_ | refine ts_ret ?_ | refine th_exit ?_ | refine th_ret ?_ | refine bl_normal ?_ | refine bl_ret ?_ | refine bl_hit ?_ | refine bl_miss rfl ?_ | refine tret_of (.inr rfl) rfl ?_ | refine qT rfl (dT (by rw [lM]; omega)) ?_ | refine lT (tl_ixm (m := i) rfl rfl rfl hg) ?_ | refine cA rfl (by rw [hP]; exact letter_spec _) rfl ?_ | refine cA rfl (by rw [hP]; exact digit_spec _) rfl ?_ | (refine gS rfl (fun h => ?_) (fun h => ?_) <;> (try simp only [bs0, beq_iff_eq] at h) <;> try (exfalso; (first | (rw [hb] at h; cases h; done) | (rw [hl] at h; cases h; done) | (rw [hd] at h; cases h; done) | omega); done)) | (refine ts_cond rfl (fun h => ?_) (fun h => ?_) <;> (try simp only [bs0, beq_iff_eq] at h) <;> try (exfalso; (first | (rw [hb] at h; cases h; done) | (rw [hl] at h; cases h; done) | (rw [hd] at h; cases h; done) | omega); done)) | fail)
      exact .vb (right_no (by rw [hok]; exact no_at hz))
 have hil : i = (spots s).length := by omega
 subst hil
 rw [List.drop_length] at hok
 have hok' : okAll 0 (spots s) = true := by rw [hok]; unfold okAll; rfl
 repeat' (first | refine ts_seq (fun K hK hW => ?_) | refine ts_reg ?_ | refine tr_nil ?_ | refine tr_ev rfl ?_ | refine use_K (by assumption) ?_ | refine tr_guard_u rfl ?_ | refine gY rfl rfl ?_ | refine gN rfl rfl ?_ | refine tr_alloc rfl ?_ | refine tr_store rfl rfl rfl rfl rfl rfl rfl ?_ | refine qT rfl rfl ?_ | refine qF rfl rfl ?_ | refine ts_nop ?_ | refine ts_block ?_ | refine ts_exit ?_ | refine ts_ret ?_ | refine th_exit ?_ | refine th_ret ?_ | refine bl_normal ?_ | refine bl_ret ?_ | refine bl_hit ?_ | refine bl_miss rfl ?_ | refine tret_of (.inr rfl) rfl ?_ | refine qF rfl (dF (by rw [lM]; omega)) ?_ | refine cA rfl (by rw [hP]; exact word_spec _) rfl ?_ | (refine gS rfl (fun h => ?_) (fun h => ?_) <;> (try simp only [bs0, beq_iff_eq] at h) <;> try (exfalso; (fail); done)) | (refine ts_cond rfl (fun h => ?_) (fun h => ?_) <;> (try simp only [bs0, beq_iff_eq] at h) <;> try (exfalso; (fail); done)) | fail)
 all_goals refine .vb ?_
 all_goals rw [rightB, hok', Bool.true_and]
 all_goals first | (rw [fin_t (by omega)]; done) | (rw [fin_t (by omega), h]; rfl) | (rw [fin_f (by omega)]; done)

set_option maxHeartbeats 1000000 in
theorem right_spec2 (s : ByteArray) (hs : s.size ≤ 1000000000000) : Pure prog Tabs 55 [tS s] (tB (rightB s)) := by
 have hsl : (spots s).length ≤ s.size := by unfold spots; exact spots_len ..
 refine Pure.at mixedOk F55 rfl fun C hP hG hp => ?_
 simp only [F55, targEnv, Nat.zero_add, Nat.reduceAdd]
 repeat' (first | refine ts_seq (fun K hK hW => ?_) | refine ts_reg ?_ | refine tr_nil ?_ | refine tr_ev rfl ?_ | refine use_K (by assumption) ?_ | refine tr_guard_u rfl ?_ | refine gY rfl rfl ?_ | refine gN rfl rfl ?_ | refine tr_alloc rfl ?_ | refine tr_store rfl rfl rfl rfl rfl rfl rfl ?_ | refine qT rfl rfl ?_ | refine qF rfl rfl ?_ | refine ts_nop ?_ | refine ts_block ?_ | refine ts_exit ?_ | refine ts_ret ?_ | refine th_exit ?_ | refine th_ret ?_ | refine bl_normal ?_ | refine bl_ret ?_ | refine bl_hit ?_ | refine bl_miss rfl ?_ | refine tret_of (.inr rfl) rfl ?_ | refine cA rfl (by rw [hP]; exact spots_spec2 s hs) rfl ?_ | refine cA rfl (by rw [hP]; exact word_spec2 _) rfl ?_ | (refine gS rfl (fun h => ?_) (fun h => ?_) <;> try simp only [bs0, beq_iff_eq] at h) | (refine ts_cond rfl (fun h => ?_) (fun h => ?_) <;> try simp only [bs0, beq_iff_eq] at h) | fail)
 all_goals try (refine .vb ?_; rw [rightB]; first | (rw [dF (by rw [lM] at *; omega)]; simp; done) | (simp_all; done))
 refine ts_loop (fun m env σ => ∃ i : Nat, m = (spots s).length - i ∧ i ≤ (spots s).length ∧ env = [(3, .lst 6 ((spots s).map cSpot)), (4, tI i)] ∧ σ = ⟨[], 0⟩ ∧ okAll 0 (spots s) = okAll i ((spots s).drop i))
  (spots s).length (w_sub [3, 4] rfl) ⟨0, rfl, by omega, rfl, rfl, rfl⟩ ?_
 rintro m env σ ⟨i, rfl, hi, rfl, rfl, hok⟩
 by_cases hlt : i < (spots s).length
 ·have hg : (spots s)[i]? = some (spots s)[i] := List.getElem?_eq_getElem hlt
  generalize (spots s)[i] = z at hg
  rw [okAll_drop hg] at hok
  cases hb : z.bad with
  | true =>
   have hz : ¬ okAt i z = true := by rw [okAt_iff, hb]; simp
   repeat' (first | refine ts_seq (fun K hK hW => ?_) | refine ts_reg ?_ | refine tr_nil ?_ | refine tr_ev rfl ?_ | refine use_K (by assumption) ?_ | refine tr_guard_u rfl ?_ | refine gY rfl rfl ?_ | refine gN rfl rfl ?_ | refine tr_alloc rfl ?_ | refine tr_store rfl rfl rfl rfl rfl rfl rfl ?_ | refine qT rfl rfl ?_ | refine qF rfl rfl ?_ | refine ts_nop ?_ | refine ts_block ?_ | refine ts_exit ?_ | refine ts_ret ?_ | refine th_exit ?_ | refine th_ret ?_ | refine bl_normal ?_ | refine bl_ret ?_ | refine bl_hit ?_ | refine bl_miss rfl ?_ | refine tret_of (.inr rfl) rfl ?_ | refine qT rfl (dT (by rw [lM]; omega)) ?_ | refine lT (tl_ixm (m := i) rfl rfl rfl hg) ?_ | refine cA rfl (by rw [hP]; exact letter_spec2 _) rfl ?_ | refine cA rfl (by rw [hP]; exact digit_spec2 _) rfl ?_ | (refine gS rfl (fun h => ?_) (fun h => ?_) <;> (try simp only [bs0, beq_iff_eq] at h) <;> try (exfalso; (first | (rw [hb] at h; cases h; done) | omega); done)) | (refine ts_cond rfl (fun h => ?_) (fun h => ?_) <;> (try simp only [bs0, beq_iff_eq] at h) <;> try (exfalso; (first | (rw [hb] at h; cases h; done) | omega); done)) | fail)
   exact .vb (right_no (by rw [hok]; exact no_at hz))
  | false =>
   cases hl : letter z.rune with
   | true =>
    have hz : okAt i z = true := by rw [okAt_iff, hb, hl]; simp
    repeat' (first | refine ts_seq (fun K hK hW => ?_) | refine ts_reg ?_ | refine tr_nil ?_ | refine tr_ev rfl ?_ | refine use_K (by assumption) ?_ | refine tr_guard_u rfl ?_ | refine gY rfl rfl ?_ | refine gN rfl rfl ?_ | refine tr_alloc rfl ?_ | refine tr_store rfl rfl rfl rfl rfl rfl rfl ?_ | refine qT rfl rfl ?_ | refine qF rfl rfl ?_ | refine ts_nop ?_ | refine ts_block ?_ | refine ts_exit ?_ | refine ts_ret ?_ | refine th_exit ?_ | refine th_ret ?_ | refine bl_normal ?_ | refine bl_ret ?_ | refine bl_hit ?_ | refine bl_miss rfl ?_ | refine tret_of (.inr rfl) rfl ?_ | refine qT rfl (dT (by rw [lM]; omega)) ?_ | refine lT (tl_ixm (m := i) rfl rfl rfl hg) ?_ | refine cA rfl (by rw [hP]; exact letter_spec2 _) rfl ?_ | refine cA rfl (by rw [hP]; exact digit_spec2 _) rfl ?_ | (refine gS rfl (fun h => ?_) (fun h => ?_) <;> (try simp only [bs0, beq_iff_eq] at h) <;> try (exfalso; (first | (rw [hb] at h; cases h; done) | (rw [hl] at h; cases h; done) | omega); done)) | (refine ts_cond rfl (fun h => ?_) (fun h => ?_) <;> (try simp only [bs0, beq_iff_eq] at h) <;> try (exfalso; (first | (rw [hb] at h; cases h; done) | (rw [hl] at h; cases h; done) | omega); done)) | fail)
    refine loop_again (m' := (spots s).length - (i + 1)) (by omega) ?_ ⟨i + 1, rfl, by omega, rfl, rfl, by rw [hok, hz, Bool.true_and]⟩
    (refine w_ren [] rfl (by rw [hp]; intro j hj; cases hj) rfl ?_ ?_ <;> repeat' (first | exact .nil | exact .f _ rfl | exact .s _ _ _ _ _ _ rfl | exact .p _ _ _ rfl | exact .rows _ _ _ | exact .iter _ _ | exact RenL.nil _ | refine RenL.cons ?_ ?_ | refine .cells _ _ _ ?_ | refine .cons _ _ _ _ rfl ?_ ?_ | refine .cons _ _ _ _ _ rfl rfl ?_ ?_ | refine .rowsE ?_ | refine .sE rfl ?_ | exact .m _ _ rfl | refine .fE rfl ?_ | exact RenO.mB _ | exact RenO.mB [] | fail))
    all_goals rw [w64 (by omega)]; rfl
   | false =>
    by_cases h0 : i = 0
    ·have hz : ¬ okAt i z = true := by rw [okAt_iff, hb, hl]; simp [h0]
     repeat' (first | refine ts_seq (fun K hK hW => ?_) | refine ts_reg ?_ | refine tr_nil ?_ | refine tr_ev rfl ?_ | refine use_K (by assumption) ?_ | refine tr_guard_u rfl ?_ | refine gY rfl rfl ?_ | refine gN rfl rfl ?_ | refine tr_alloc rfl ?_ | refine tr_store rfl rfl rfl rfl rfl rfl rfl ?_ | refine qT rfl rfl ?_ | refine qF rfl rfl ?_ | refine ts_nop ?_ | refine ts_block ?_ | refine ts_exit ?_ | refine ts_ret ?_ | refine th_exit ?_ | refine th_ret ?_ | refine bl_normal ?_ | refine bl_ret ?_ | refine bl_hit ?_ | refine bl_miss rfl ?_ | refine tret_of (.inr rfl) rfl ?_ | refine qT rfl (dT (by rw [lM]; omega)) ?_ | refine lT (tl_ixm (m := i) rfl rfl rfl hg) ?_ | refine cA rfl (by rw [hP]; exact letter_spec2 _) rfl ?_ | refine cA rfl (by rw [hP]; exact digit_spec2 _) rfl ?_ | (refine gS rfl (fun h => ?_) (fun h => ?_) <;> (try simp only [bs0, beq_iff_eq] at h) <;> try (exfalso; (first | (rw [hb] at h; cases h; done) | (rw [hl] at h; cases h; done) | omega); done)) | (refine ts_cond rfl (fun h => ?_) (fun h => ?_) <;> (try simp only [bs0, beq_iff_eq] at h) <;> try (exfalso; (first | (rw [hb] at h; cases h; done) | (rw [hl] at h; cases h; done) | omega); done)) | fail)
     exact .vb (right_no (by rw [hok]; exact no_at hz))
    ·cases hd : digit z.rune with
     | true =>
      have hz : okAt i z = true := by rw [okAt_iff, hb, hl, hd]; simp [h0]
      repeat' (first | refine ts_seq (fun K hK hW => ?_) | refine ts_reg ?_ | refine tr_nil ?_ | refine tr_ev rfl ?_ | refine use_K (by assumption) ?_ | refine tr_guard_u rfl ?_ | refine gY rfl rfl ?_ | refine gN rfl rfl ?_ | refine tr_alloc rfl ?_ | refine tr_store rfl rfl rfl rfl rfl rfl rfl ?_ | refine qT rfl rfl ?_ | refine qF rfl rfl ?_ | refine ts_nop ?_ | refine ts_block ?_ | refine ts_exit ?_ | refine ts_ret ?_ | refine th_exit ?_ | refine th_ret ?_ | refine bl_normal ?_ | refine bl_ret ?_ | refine bl_hit ?_ | refine bl_miss rfl ?_ | refine tret_of (.inr rfl) rfl ?_ | refine qT rfl (dT (by rw [lM]; omega)) ?_ | refine lT (tl_ixm (m := i) rfl rfl rfl hg) ?_ | refine cA rfl (by rw [hP]; exact letter_spec2 _) rfl ?_ | refine cA rfl (by rw [hP]; exact digit_spec2 _) rfl ?_ | (refine gS rfl (fun h => ?_) (fun h => ?_) <;> (try simp only [bs0, beq_iff_eq] at h) <;> try (exfalso; (first | (rw [hb] at h; cases h; done) | (rw [hl] at h; cases h; done) | (rw [hd] at h; cases h; done) | omega); done)) | (refine ts_cond rfl (fun h => ?_) (fun h => ?_) <;> (try simp only [bs0, beq_iff_eq] at h) <;> try (exfalso; (first | (rw [hb] at h; cases h; done) | (rw [hl] at h; cases h; done) | (rw [hd] at h; cases h; done) | omega); done)) | fail)
      refine loop_again (m' := (spots s).length - (i + 1)) (by omega) ?_ ⟨i + 1, rfl, by omega, rfl, rfl, by rw [hok, hz, Bool.true_and]⟩
      (refine w_ren [] rfl (by rw [hp]; intro j hj; cases hj) rfl ?_ ?_ <;> repeat' (first | exact .nil | exact .f _ rfl | exact .s _ _ _ _ _ _ rfl | exact .p _ _ _ rfl | exact .rows _ _ _ | exact .iter _ _ | exact RenL.nil _ | refine RenL.cons ?_ ?_ | refine .cells _ _ _ ?_ | refine .cons _ _ _ _ rfl ?_ ?_ | refine .cons _ _ _ _ _ rfl rfl ?_ ?_ | refine .rowsE ?_ | refine .sE rfl ?_ | exact .m _ _ rfl | refine .fE rfl ?_ | exact RenO.mB _ | exact RenO.mB [] | fail))
      all_goals rw [w64 (by omega)]; rfl
     | false =>
      have hz : ¬ okAt i z = true := by rw [okAt_iff, hb, hl, hd]; simp
      repeat' (first | refine ts_seq (fun K hK hW => ?_) | refine ts_reg ?_ | refine tr_nil ?_ | refine tr_ev rfl ?_ | refine use_K (by assumption) ?_ | refine tr_guard_u rfl ?_ | refine gY rfl rfl ?_ | refine gN rfl rfl ?_ | refine tr_alloc rfl ?_ | refine tr_store rfl rfl rfl rfl rfl rfl rfl ?_ | refine qT rfl rfl ?_ | refine qF rfl rfl ?_ | refine ts_nop ?_ | refine ts_block ?_ | refine ts_exit ?_ | refine ts_ret ?_ | refine th_exit ?_ | refine th_ret ?_ | refine bl_normal ?_ | refine bl_ret ?_ | refine bl_hit ?_ | refine bl_miss rfl ?_ | refine tret_of (.inr rfl) rfl ?_ | refine qT rfl (dT (by rw [lM]; omega)) ?_ | refine lT (tl_ixm (m := i) rfl rfl rfl hg) ?_ | refine cA rfl (by rw [hP]; exact letter_spec2 _) rfl ?_ | refine cA rfl (by rw [hP]; exact digit_spec2 _) rfl ?_ | (refine gS rfl (fun h => ?_) (fun h => ?_) <;> (try simp only [bs0, beq_iff_eq] at h) <;> try (exfalso; (first | (rw [hb] at h; cases h; done) | (rw [hl] at h; cases h; done) | (rw [hd] at h; cases h; done) | omega); done)) | (refine ts_cond rfl (fun h => ?_) (fun h => ?_) <;> (try simp only [bs0, beq_iff_eq] at h) <;> try (exfalso; (first | (rw [hb] at h; cases h; done) | (rw [hl] at h; cases h; done) | (rw [hd] at h; cases h; done) | omega); done)) | fail)
      exact .vb (right_no (by rw [hok]; exact no_at hz))
 have hil : i = (spots s).length := by omega
 subst hil
 rw [List.drop_length] at hok
 have hok' : okAll 0 (spots s) = true := by rw [hok]; unfold okAll; rfl
 repeat' (first | refine ts_seq (fun K hK hW => ?_) | refine ts_reg ?_ | refine tr_nil ?_ | refine tr_ev rfl ?_ | refine use_K (by assumption) ?_ | refine tr_guard_u rfl ?_ | refine gY rfl rfl ?_ | refine gN rfl rfl ?_ | refine tr_alloc rfl ?_ | refine tr_store rfl rfl rfl rfl rfl rfl rfl ?_ | refine qT rfl rfl ?_ | refine qF rfl rfl ?_ | refine ts_nop ?_ | refine ts_block ?_ | refine ts_exit ?_ | refine ts_ret ?_ | refine th_exit ?_ | refine th_ret ?_ | refine bl_normal ?_ | refine bl_ret ?_ | refine bl_hit ?_ | refine bl_miss rfl ?_ | refine tret_of (.inr rfl) rfl ?_ | refine qF rfl (dF (by rw [lM]; omega)) ?_ | (refine gS rfl (fun h => ?_) (fun h => ?_) <;> (try simp only [bs0, beq_iff_eq] at h) <;> try (exfalso; (fail); done)) | (refine ts_cond rfl (fun h => ?_) (fun h => ?_) <;> (try simp only [bs0, beq_iff_eq] at h) <;> try (exfalso; (fail); done)) | fail)
 refine .vb ?_
 rw [rightB, hok', Bool.true_and, fin_t (by simp only [lM] at *; omega)]
 simp_all
end
end Go.Proofs.YtnphhelbianjpaaGreatDoor
