/-
  Walks of functions of the program, and what the laws need of them.
-/
import Derived.Test.YtcmedbbikpdgmaaDoorRLaw3A
set_option linter.all false
set_option linter.unusedSimpArgs false
set_option linter.unusedVariables false
set_option linter.unnecessarySimpa false
namespace Go.Proofs.YtcmedbbikpdgmaaDoor
open Go Go.Proofs.YtcmedbbikpdgmaaDoor.V Go.Proofs

theorem enc_def (c : Nat) (hv : c < 55296 ∨ (57344 ≤ c ∧ c ≤ 1114111)) : Utf8.encode (c : Int) = if c < 128 then ⟨#[UInt8.ofNat c]⟩ else if c < 2048 then ⟨#[UInt8.ofNat (192 + c / 64), UInt8.ofNat (128 + c % 64)]⟩
    else if c < 65536 then ⟨#[UInt8.ofNat (224 + c / 4096), UInt8.ofNat (128 + c / 64 % 64), UInt8.ofNat (128 + c % 64)]⟩
    else ⟨#[UInt8.ofNat (240 + c / 262144), UInt8.ofNat (128 + c / 4096 % 64), UInt8.ofNat (128 + c / 64 % 64), UInt8.ofNat (128 + c % 64)]⟩ := by
  have h : Utf8.valid (c : Int) = true := by simp only [Utf8.valid, Bool.or_eq_true, Bool.and_eq_true, decide_eq_true_eq]; omega
  unfold Utf8.encode
  simp only [h, if_true, Int.toNat_natCast]

/-- A rune that is not bad is its own bytes; a bad one is a byte from 128 on. -/
theorem dec_enc (s : ByteArray) (i : Nat) (h : i < s.size) : (decide ((Utf8.decode s i).1 = 65533 ∧ (Utf8.decode s i).2 = 1) = true → (Utf8.decode s i).2 = 1 ∧ 128 ≤ (s.get! i).toNat) ∧
    (decide ((Utf8.decode s i).1 = 65533 ∧ (Utf8.decode s i).2 = 1) = false → Utf8.encode ((Utf8.decode s i).1 : Int) = s.extract i (i + (Utf8.decode s i).2)) := by
  have ext : ∀ k, i + k ≤ s.size → (s.extract i (i + k)).data.toList = (List.range k).map fun j => s.get! (i + j) := by
    intro k hk
    apply List.ext_getElem?
    intro j
    have hsz : s.size = s.data.toList.length := by rw [Array.length_toList]; rfl
    rw [ByteArray.data_extract, Array.toList_extract, List.getElem?_map]
    simp only [List.extract_eq_take_drop, Nat.add_sub_cancel_left, List.getElem?_take, List.getElem?_drop]
    split
    · rename_i hj
      rw [List.getElem?_range hj, Option.map_some, get_eq, List.getElem?_eq_getElem (by omega)]; rfl
    · rename_i hj
      rw [List.getElem?_eq_none (by simp; omega)]; rfl
  have fit := decode_fit h
  have byte : ∀ (u : UInt8) (n : Nat), n = u.toNat → UInt8.ofNat n = u := by rintro u n rfl; exact UInt8.ofNat_toNat
  have lt : ∀ j, (s.get! (i + j)).toNat < 256 := fun j => (s.get! (i + j)).toNat_lt
  have l0 := lt 0
  rw [Nat.add_zero] at l0
  have l1 := lt 1
  have l2 := lt 2
  have l3 := lt 3
  rw [decide_eq_true_eq, decide_eq_false_iff_not]
  generalize hd : Utf8.decode s i = d at fit ⊢
  unfold Utf8.decode at hd
  simp only [Utf8.runeError] at hd
  have key : ∀ (l : List UInt8) (k : Nat), i + k ≤ s.size → l = (List.range k).map (fun j => s.get! (i + j)) → (⟨l.toArray⟩ : ByteArray) = s.extract i (i + k) := by
    intro l k hk hl
    have := ext k hk
    cases hx : s.extract i (i + k) with
    | mk dd =>
      rw [hx] at this
      simp only at this
      rw [hl, ← this]
  simp only [Nat.add_zero] at hd
  split at hd
  · rename_i hb
    subst hd
    refine ⟨fun hh => by simp only at hh; omega, fun _ => ?_⟩
    have e : Utf8.encode (((s.get! i).toNat : Nat) : Int) = ⟨#[UInt8.ofNat (s.get! i).toNat]⟩ := by
      rw [enc_def _ (by omega), if_pos (by omega)]
    rw [e]
    exact key [UInt8.ofNat (s.get! i).toNat] 1 fit (by simp [List.range_succ])
  rename_i hb0
  have bad : ∀ {d : Nat × Nat}, (65533, 1) = d → (d.1 = 65533 ∧ d.2 = 1 → d.2 = 1 ∧ 128 ≤ (s.get! i).toNat) ∧ (¬ (d.1 = 65533 ∧ d.2 = 1) → Utf8.encode (d.1 : Int) = s.extract i (i + d.2)) := by
    rintro d rfl
    exact ⟨fun _ => ⟨rfl, by omega⟩, fun h => absurd ⟨rfl, rfl⟩ h⟩
  split at hd
  · rename_i hc
    simp only [Bool.and_eq_true, beq_iff_eq, decide_eq_true_eq] at hc
    split at hd
    · rename_i hv
      subst hd
      refine ⟨fun hh => by simp at hh, fun _ => ?_⟩
      refine Eq.trans ?_ (key [s.get! i, s.get! (i + 1)] 2 fit (by simp [List.range_succ]))
      rw [enc_def _ (by omega), if_neg (by omega), if_pos (by omega)]
      rw [byte (s.get! i) _ (by omega), byte (s.get! (i + 1)) _ (by omega)]
    · exact bad hd
  split at hd
  · rename_i hc
    simp only [Bool.and_eq_true, beq_iff_eq, decide_eq_true_eq] at hc
    split at hd
    · rename_i hv
      simp only [Utf8.valid, Bool.and_eq_true, Bool.or_eq_true, decide_eq_true_eq] at hv
      subst hd
      refine ⟨fun hh => by simp at hh, fun _ => ?_⟩
      refine Eq.trans ?_ (key [s.get! i, s.get! (i + 1), s.get! (i + 2)] 3 fit (by simp [List.range_succ]))
      rw [enc_def _ (by omega), if_neg (by omega), if_neg (by omega), if_pos (by omega)]
      rw [byte (s.get! i) _ (by omega), byte (s.get! (i + 1)) _ (by omega), byte (s.get! (i + 2)) _ (by omega)]
    · exact bad hd
  split at hd
  · rename_i hc
    simp only [Bool.and_eq_true, beq_iff_eq, decide_eq_true_eq] at hc
    split at hd
    · rename_i hv
      simp only [Utf8.valid, Bool.and_eq_true, Bool.or_eq_true, decide_eq_true_eq] at hv
      subst hd
      refine ⟨fun hh => by simp at hh, fun _ => ?_⟩
      refine Eq.trans ?_ (key [s.get! i, s.get! (i + 1), s.get! (i + 2), s.get! (i + 3)] 4 fit (by simp [List.range_succ]))
      rw [enc_def _ (by omega), if_neg (by omega), if_neg (by omega), if_neg (by omega)]
      rw [byte (s.get! i) _ (by omega), byte (s.get! (i + 1)) _ (by omega), byte (s.get! (i + 2)) _ (by omega), byte (s.get! (i + 3)) _ (by omega)]
    · exact bad hd
  · exact bad hd

theorem get_some (s : ByteArray) (i : Nat) (h : i < s.size) : s[i]? = some (s.get! i) := by
  have hsz : s.size = s.data.toList.length := by rw [Array.length_toList]; rfl
  rw [get_eq, List.getElem?_eq_getElem (by omega), Option.getD_some]
  cases s with
  | mk d =>
    show (ByteArray.mk d)[i]? = _
    rw [getElem?_pos (ByteArray.mk d) i h]
    rfl

theorem ut_int32 : prog.underlying ty_int32 = some (.int .i32) := by kernel_rfl
theorem v_convS {P : Program} {w0 : World} {env : TEnv} {σ : TS} {s d : TypeId} {x : Operand} {k : IntKind} {i : Int} {en : ByteArray} {ds : TypeDesc} (hs : P.underlying s = some ds) (hd : P.underlying d = some .string) (hx : tO env x = some (.v (.int k i))) (he : Utf8.encode i = en) :
    TL P w0 env σ (.conv s d x) (.v (.string en)) := by subst he; exact tl_convS hs hd hx
theorem v_slS {P : Program} {w0 : World} {env : TEnv} {σ : TS} {t : TypeId} {x : Operand} {lo hi : Option Operand} {s e : ByteArray} {l h : Option Int} (ht : P.underlying t = some .string) (hx : tO env x = some (.v (.string s))) (hl : tOpt env lo = some l) (hh : tOpt env hi = some h)
    (hb : 0 ≤ l.getD 0 ∧ l.getD 0 ≤ h.getD s.size ∧ h.getD s.size ≤ (s.size : Int)) (he : s.extract (l.getD 0).toNat (h.getD s.size).toNat = e) :
    TL P w0 env σ (.slS t x lo hi) (.v (.string e)) := by subst he; exact tl_slS ht hx hl hh hb

section
attribute [local irreducible] TwS TwR thenT inBlockT retT endS spots short letter digit blank

set_option maxRecDepth 20000 in
theorem glyphCovers (s : ByteArray) : Pure prog Tabs n_law_GlyphCovers [.v (.string s)] (tB true) := by
  refine Pure.of mixedOk (fn := f_law_GlyphCovers) rfl (by kernel_rfl) ok_law_GlyphCovers rfl fun C hP hG hp => ?_
  simp only [fs_law_GlyphCovers, targEnv, Nat.zero_add, Nat.reduceAdd]
  have hs : (short s 600).size ≤ 1000000000000 := Nat.le_trans (short_size s 600) (by decide)
  have hs6 := short_size s 600
  have hsl : (spots (short s 600)).length ≤ 600 := by rw [spots_def]; exact Nat.le_trans (spots_len ..) hs6
  repeat' (first | refine ts_seq (fun K hK hW => ?_) | refine ts_reg ?_ | refine tr_nil ?_ | refine tr_ev rfl ?_ | refine use_K (by assumption) ?_ | refine tr_guard_u rfl ?_ | refine tr_guard_y rfl rfl ?_ | refine tr_guard_n rfl rfl ?_ | refine tr_alloc rfl ?_ | refine tr_store rfl rfl rfl rfl rfl rfl rfl ?_ | refine ts_cond_t rfl rfl ?_ | refine ts_cond_f rfl rfl ?_ | refine ts_nop ?_ | refine ts_block ?_ | refine ts_exit ?_ | refine ts_ret ?_ | refine th_exit ?_ | refine th_ret ?_ | refine bl_normal ?_ | refine bl_ret ?_ | refine bl_hit ?_ | refine bl_miss rfl ?_ | refine tret_of (.inr rfl) rfl ?_ | refine tr_call rfl (by rw [hP]; exact short_spec s 600) (.inl rfl) ?_ | refine tr_call rfl (by rw [hP, hG]; exact spots_spec _ hs) (.inl rfl) ?_ | (refine tg_split rfl (fun h => ?_) (fun h => ?_) <;> try simp only [decide_eq_true_eq, decide_eq_false_iff_not, Bool.not_eq_true', Bool.not_eq_false', Bool.not_true, Bool.not_false, Bool.not_not, beq_iff_eq, Bool.not_eq_true, Bool.not_eq_false] at h) | (refine ts_cond rfl (fun h => ?_) (fun h => ?_) <;> try simp only [decide_eq_true_eq, decide_eq_false_iff_not, Bool.not_eq_true', Bool.not_eq_false', Bool.not_true, Bool.not_false, Bool.not_not, beq_iff_eq, Bool.not_eq_true, Bool.not_eq_false] at h))
  generalize hx : short s 600 = x at hs hs6 hsl
  refine ts_loop (fun m env σ => ∃ (n pos : Nat) (lc : Int × Int) (pre : List Spot), m = n ∧ env = [(0, .v (.string x)), (3, .lst 6 ((spots x).map cSpot)), (4, tI pos), (5, tI pre.length)] ∧ σ = ⟨[], 0⟩ ∧
    pre ++ spotsOf x n pos lc = spots x ∧ x.size ≤ pos + n ∧ pos ≤ x.size) x.size (w_sub [0, 3, 4, 5] rfl) ⟨x.size, 0, (1, 1), [], rfl, rfl, rfl, (spots_def x).symm, by omega, by omega⟩ ?_
  rintro m env σ ⟨n, pos, lc, pre, rfl, rfl, rfl, hpre, hn, h5⟩
  have hlen : (spots x).length = pre.length + (spotsOf x m pos lc).length := by rw [← hpre, List.length_append]
  by_cases hnil : spotsOf x m pos lc = []
  · have hl : (spots x).length = pre.length := by rw [hlen, hnil]; rfl
    have hpx : pos = x.size := by
      rcases Nat.lt_or_ge pos x.size with h | h
      · exfalso
        cases m with
        | zero => omega
        | succ m => simp only [spotsOf, if_pos h] at hnil; cases hnil
      · omega
    subst hpx
    repeat' (first | refine ts_seq (fun K hK hW => ?_) | refine ts_reg ?_ | refine tr_nil ?_ | refine tr_ev rfl ?_ | refine use_K (by assumption) ?_ | refine tr_guard_u rfl ?_ | refine tr_guard_y rfl rfl ?_ | refine tr_guard_n rfl rfl ?_ | refine tr_alloc rfl ?_ | refine tr_store rfl rfl rfl rfl rfl rfl rfl ?_ | refine ts_cond_t rfl rfl ?_ | refine ts_cond_f rfl rfl ?_ | refine ts_nop ?_ | refine ts_block ?_ | refine ts_exit ?_ | refine ts_ret ?_ | refine th_exit ?_ | refine th_ret ?_ | refine bl_normal ?_ | refine bl_ret ?_ | refine bl_hit ?_ | refine bl_miss rfl ?_ | refine tret_of (.inr rfl) rfl ?_ | refine ts_cond_f rfl (decide_eq_false (by rw [List.length_map]; omega)) ?_ | refine tr_call rfl (by rw [hP, hG]; exact alive_spec) (.inl rfl) ?_ | (refine tg_split rfl (fun h => ?_) (fun h => ?_) <;> (try simp only [decide_eq_true_eq, decide_eq_false_iff_not, Bool.not_eq_true', Bool.not_eq_false', Bool.not_true, Bool.not_false, Bool.not_not, beq_iff_eq, Bool.not_eq_true, Bool.not_eq_false] at h) <;> try (exfalso; (simp at h); done)) | (refine ts_cond rfl (fun h => ?_) (fun h => ?_) <;> (try simp only [decide_eq_true_eq, decide_eq_false_iff_not, Bool.not_eq_true', Bool.not_eq_false', Bool.not_true, Bool.not_false, Bool.not_not, beq_iff_eq, Bool.not_eq_true, Bool.not_eq_false] at h) <;> try (exfalso; (simp at h); done)))
    exact .fr rfl
  · obtain ⟨k, rfl, hp', hsp, _⟩ := spots_next _ _ _ _ hnil
    obtain ⟨y, hy⟩ : ∃ y, spotAt x pos lc = y := ⟨_, rfl⟩
    have hg : (spots x)[pre.length]? = some y := by rw [← hpre, hsp, hy]; simp
    have h1 : y.at' = pos := by rw [← hy]; rfl
    have h2 : 1 ≤ y.size ∧ y.size ≤ 4 := by rw [← hy]; exact decode_pos x pos
    have h3 : pos + y.size ≤ x.size := by rw [← hy]; exact decode_fit hp'
    have h4 : (y.bad = true → y.size = 1 ∧ 128 ≤ (x.get! pos).toNat) ∧ (y.bad = false → Utf8.encode (y.rune : Int) = x.extract pos (pos + y.size)) := by rw [← hy]; exact dec_enc x pos hp'
    have hrest : spotsOf x (k + 1) pos lc = y :: spotsOf x k (pos + y.size) (stepN lc y.rune) := by rw [hsp, ← hy]; rfl
    clear hsp hy
    have hu := get_some _ _ hp'
    generalize x.get! pos = u at h4 hu
    generalize hen : Utf8.encode (y.rune : Int) = en at h4
    generalize hex : x.extract pos (pos + y.size) = ex at h4
    have hw : (IntKind.i64.wrap ((pos : Int) + (y.size : Int))) = ((pos + y.size : Nat) : Int) := by rw [w64 (by omega)]; omega
    cases hyb : y.bad
    · have h4 := h4.2 hyb
      repeat' (first | refine ts_seq (fun K hK hW => ?_) | refine ts_reg ?_ | refine tr_nil ?_ | refine tr_ev rfl ?_ | refine use_K (by assumption) ?_ | refine tr_guard_u rfl ?_ | refine tr_guard_y rfl rfl ?_ | refine tr_guard_n rfl rfl ?_ | refine tr_alloc rfl ?_ | refine tr_store rfl rfl rfl rfl rfl rfl rfl ?_ | refine ts_cond_t rfl rfl ?_ | refine ts_cond_f rfl rfl ?_ | refine ts_nop ?_ | refine ts_block ?_ | refine ts_exit ?_ | refine ts_ret ?_ | refine th_exit ?_ | refine th_ret ?_ | refine bl_normal ?_ | refine bl_ret ?_ | refine bl_hit ?_ | refine bl_miss rfl ?_ | refine tret_of (.inr rfl) rfl ?_ | refine ts_cond_t rfl (decide_eq_true (by rw [List.length_map, hlen, hrest, List.length_cons]; omega)) ?_ | refine tr_light (tl_ixm (m := pre.length) rfl rfl rfl hg) ?_ | refine tr_light (tl_idxS (by rw [hP]; exact ut_string) rfl rfl (by omega) hu) ?_ | refine tr_light (v_convS (by rw [hP]; exact ut_int32) (by rw [hP]; exact ut_string) rfl hen) ?_ | refine tr_light (v_slS (e := ex) (by rw [hP]; exact ut_string) rfl rfl rfl (by rw [hw]; simp; omega) (by rw [hw]; exact hex)) ?_ | (refine tg_split rfl (fun h => ?_) (fun h => ?_) <;> (try simp only [decide_eq_true_eq, decide_eq_false_iff_not, Bool.not_eq_true', Bool.not_eq_false', Bool.not_true, Bool.not_false, Bool.not_not, beq_iff_eq, Bool.not_eq_true, Bool.not_eq_false] at h) <;> try (exfalso; (first | omega | (rw [hw] at h; omega) | (rw [hyb] at h; cases h; done) | (exact h h4)); done)) | (refine ts_cond rfl (fun h => ?_) (fun h => ?_) <;> (try simp only [decide_eq_true_eq, decide_eq_false_iff_not, Bool.not_eq_true', Bool.not_eq_false', Bool.not_true, Bool.not_false, Bool.not_not, beq_iff_eq, Bool.not_eq_true, Bool.not_eq_false] at h) <;> try (exfalso; (first | omega | (rw [hw] at h; omega) | (rw [hyb] at h; cases h; done) | (exact h h4)); done)))
      all_goals refine loop_again (m' := k) (by omega) ?_ ⟨k, pos + y.size, stepN lc y.rune, pre ++ [y], rfl, rfl, rfl, by rw [← hpre, hrest, List.append_assoc]; rfl, by omega, by omega⟩
      all_goals (refine w_ren [] rfl (by rw [hp]; intro j hj; cases hj) rfl ?_ ?_ <;> repeat' (first | exact .nil | exact .f _ rfl | exact .s _ _ _ _ _ _ rfl | exact .p _ _ _ rfl | exact .rows _ _ _ | exact .iter _ _ | exact RenL.nil _ | refine RenL.cons ?_ ?_ | refine .cells _ _ _ ?_ | refine .cons _ _ _ _ rfl ?_ ?_ | refine .cons _ _ _ _ _ rfl rfl ?_ ?_ | refine .rowsE ?_ | refine .sE rfl ?_ | exact .m _ _ rfl | refine .fE rfl ?_ | fail))
      all_goals first | rw [hw] | (rw [List.length_append, w64 (by omega)]; rfl)
    · have h4 := h4.1 hyb
      repeat' (first | refine ts_seq (fun K hK hW => ?_) | refine ts_reg ?_ | refine tr_nil ?_ | refine tr_ev rfl ?_ | refine use_K (by assumption) ?_ | refine tr_guard_u rfl ?_ | refine tr_guard_y rfl rfl ?_ | refine tr_guard_n rfl rfl ?_ | refine tr_alloc rfl ?_ | refine tr_store rfl rfl rfl rfl rfl rfl rfl ?_ | refine ts_cond_t rfl rfl ?_ | refine ts_cond_f rfl rfl ?_ | refine ts_nop ?_ | refine ts_block ?_ | refine ts_exit ?_ | refine ts_ret ?_ | refine th_exit ?_ | refine th_ret ?_ | refine bl_normal ?_ | refine bl_ret ?_ | refine bl_hit ?_ | refine bl_miss rfl ?_ | refine tret_of (.inr rfl) rfl ?_ | refine ts_cond_t rfl (decide_eq_true (by rw [List.length_map, hlen, hrest, List.length_cons]; omega)) ?_ | refine tr_light (tl_ixm (m := pre.length) rfl rfl rfl hg) ?_ | refine tr_light (tl_idxS (by rw [hP]; exact ut_string) rfl rfl (by omega) hu) ?_ | refine tr_light (v_convS (by rw [hP]; exact ut_int32) (by rw [hP]; exact ut_string) rfl hen) ?_ | refine tr_light (v_slS (e := ex) (by rw [hP]; exact ut_string) rfl rfl rfl (by rw [hw]; simp; omega) (by rw [hw]; exact hex)) ?_ | (refine tg_split rfl (fun h => ?_) (fun h => ?_) <;> (try simp only [decide_eq_true_eq, decide_eq_false_iff_not, Bool.not_eq_true', Bool.not_eq_false', Bool.not_true, Bool.not_false, Bool.not_not, beq_iff_eq, Bool.not_eq_true, Bool.not_eq_false] at h) <;> try (exfalso; (first | omega | (rw [hw] at h; omega) | (rw [hyb] at h; cases h; done) | (exact h h4)); done)) | (refine ts_cond rfl (fun h => ?_) (fun h => ?_) <;> (try simp only [decide_eq_true_eq, decide_eq_false_iff_not, Bool.not_eq_true', Bool.not_eq_false', Bool.not_true, Bool.not_false, Bool.not_not, beq_iff_eq, Bool.not_eq_true, Bool.not_eq_false] at h) <;> try (exfalso; (first | omega | (rw [hw] at h; omega) | (rw [hyb] at h; cases h; done) | (exact h h4)); done)))
      all_goals refine loop_again (m' := k) (by omega) ?_ ⟨k, pos + y.size, stepN lc y.rune, pre ++ [y], rfl, rfl, rfl, by rw [← hpre, hrest, List.append_assoc]; rfl, by omega, by omega⟩
      all_goals (refine w_ren [] rfl (by rw [hp]; intro j hj; cases hj) rfl ?_ ?_ <;> repeat' (first | exact .nil | exact .f _ rfl | exact .s _ _ _ _ _ _ rfl | exact .p _ _ _ rfl | exact .rows _ _ _ | exact .iter _ _ | exact RenL.nil _ | refine RenL.cons ?_ ?_ | refine .cells _ _ _ ?_ | refine .cons _ _ _ _ rfl ?_ ?_ | refine .cons _ _ _ _ _ rfl rfl ?_ ?_ | refine .rowsE ?_ | refine .sE rfl ?_ | exact .m _ _ rfl | refine .fE rfl ?_ | fail))
      all_goals first | rw [hw] | (rw [List.length_append, w64 (by omega)]; rfl)
end
end Go.Proofs.YtcmedbbikpdgmaaDoor
