/-
  Walks of functions of the program, and what the laws need of them.
-/
import Derived.Test.YtcmedbbikpdgmaaDoorRLaw3B
set_option linter.all false
set_option linter.unusedSimpArgs false
set_option linter.unusedVariables false
set_option linter.unnecessarySimpa false
namespace Go.Proofs.YtcmedbbikpdgmaaDoor
open Go Go.Proofs.YtcmedbbikpdgmaaDoor.V Go.Proofs

theorem beqL_self : ∀ {sh : List Sh} {xs : List Value}, fitsL sh xs = true → beqL xs xs = true
  | [], [], _ => rfl
  | a :: r, v :: l, h => by
    simp only [fitsL, Bool.and_eq_true] at h
    have : beqA v v = true := by
      have := h.1
      cases a <;> cases v <;> first | (simp [Sh.fits] at this; done) | simp [beqA]
    simp only [beqL, this, beqL_self h.2, Bool.and_self]
  | [], _ :: _, h => by cases h
  | _ :: _, [], h => by cases h
/-- Two that are alike. -/
theorem v_nes_self {P : Program} {w0 : World} {env : TEnv} {σ : TS} {t : TypeId} {x y : Operand} {cs : List TV} {xs : List Value} {sh : List Sh} (hsh : shapeOf P 10000 t = some sh) (hagg : (P.underlying t).map aggD = some true) (hm : P.eqGuardType P.depth t = false)
    (hx : tO env x = some (.agg cs)) (hy : tO env y = some (.agg cs)) (h1 : vsOf cs = some xs) (f1 : fitsL sh xs = true) : TL P w0 env σ (.bin .neq t x y) (.v (.bool false)) := by
  have := tl_nes (P := P) (w0 := w0) (σ := σ) hsh hagg hm hx hy h1 h1 f1 f1
  rwa [beqL_self f1] at this

/-! ### Texts, one behind the other -/
theorem app_list (a b : ByteArray) : (a ++ b).data.toList = a.data.toList ++ b.data.toList := by simp
theorem sz_list (a : ByteArray) : a.data.toList.length = a.size := by rw [Array.length_toList]; rfl
theorem get_app (a b : ByteArray) (i : Nat) : (a ++ b).get! i = if i < a.size then a.get! i else b.get! (i - a.size) := by
  rw [get_eq, get_eq, get_eq, app_list, List.getElem?_append, sz_list]
  split <;> rfl

/-- What is read of a text behind which there is another one that begins with a line's end. -/
theorem dec_front (s u : ByteArray) (hu : 0 < u.size) (h10 : u.get! 0 = 10) (i : Nat) (hi : i < s.size) : Utf8.decode (s ++ u) i = Utf8.decode s i := by
  have g : ∀ k, i + k < s.size → (s ++ u).get! (i + k) = s.get! (i + k) := fun k hk => by rw [get_app, if_pos hk]
  have g10 : ∀ k, i + k = s.size → (s ++ u).get! (i + k) = 10 := fun k hk => by rw [get_app, if_neg (by omega), hk, Nat.sub_self, h10]
  have sz : (s ++ u).size = s.size + u.size := ByteArray.size_append
  have c : ∀ k, i + k < s.size → (decide (i + k < (s ++ u).size) && ((s ++ u).get! (i + k)).toNat / 64 == 2) = (decide (i + k < s.size) && (s.get! (i + k)).toNat / 64 == 2) := by
    intro k hk
    rw [g k hk, decide_eq_true (show i + k < (s ++ u).size by rw [sz]; omega), decide_eq_true hk]
  have c1 : ∀ k, i + k = s.size → (decide (i + k < (s ++ u).size) && ((s ++ u).get! (i + k)).toNat / 64 == 2) = (decide (i + k < s.size) && (s.get! (i + k)).toNat / 64 == 2) := by
    intro k hk
    rw [g10 k hk, decide_eq_false (show ¬ i + k < s.size by omega)]
    simp
  unfold Utf8.decode
  simp only [g 0 hi]
  rcases Nat.lt_or_ge (i + 1) s.size with h1 | h1
  · rcases Nat.lt_or_ge (i + 2) s.size with h2 | h2
    · rcases Nat.lt_or_ge (i + 3) s.size with h3 | h3
      · simp only [c 1 h1, c 2 h2, c 3 h3]
        simp only [g 1 h1, g 2 h2, g 3 h3]
      · have e3 := c1 3 (by omega)
        simp only [c 1 h1, c 2 h2, e3]
        simp only [g 1 h1, g 2 h2]
        rw [decide_eq_false (show ¬ i + 3 < s.size by omega)]
        simp
    · have e2 := c1 2 (by omega)
      simp only [c 1 h1, e2]
      simp only [g 1 h1]
      rw [decide_eq_false (show ¬ i + 2 < s.size by omega)]
      simp
  · have e1 := c1 1 (by omega)
    simp only [e1]
    rw [decide_eq_false (show ¬ i + 1 < s.size by omega)]
    simp

/-- .. and of the other one. -/
theorem dec_back (s u : ByteArray) (i : Nat) : Utf8.decode (s ++ u) (s.size + i) = Utf8.decode u i := by
  have g : ∀ k, (s ++ u).get! (s.size + i + k) = u.get! (i + k) := fun k => by rw [get_app, if_neg (by omega)]; congr 1; omega
  have sz : (s ++ u).size = s.size + u.size := ByteArray.size_append
  have c : ∀ k, decide (s.size + i + k < (s ++ u).size) = decide (i + k < u.size) := by
    intro k
    rw [sz]
    exact decide_eq_decide.2 (by omega)
  unfold Utf8.decode
  simp only [g, c]

/-- The places in the front. -/
theorem spots_front (s A : ByteArray) (hA : ∀ i, i < s.size → Utf8.decode A i = Utf8.decode s i) (hs : s.size ≤ A.size) : ∀ (k pos : Nat) (lc : Int × Int) (m : Nat), s.size ≤ pos + k → pos ≤ s.size → A.size - pos ≤ m →
    spotsOf A m pos lc = spotsOf s k pos lc ++ spotsOf A m s.size (endOf s k pos lc) ∧ endOf A m pos lc = endOf A m s.size (endOf s k pos lc)
  | 0, pos, lc, m, h1, h2, _ => by
    have : pos = s.size := by omega
    subst this
    exact ⟨rfl, rfl⟩
  | k + 1, pos, lc, m, h1, h2, h3 => by
    rcases Nat.lt_or_ge pos s.size with hp | hp
    · obtain ⟨m, rfl⟩ : ∃ m', m = m' + 1 := ⟨m - 1, by omega⟩
      have hd := decode_pos s pos
      have hf := decode_fit hp
      obtain ⟨i1, i2⟩ := spots_front s A hA hs k (pos + (Utf8.decode s pos).2) (stepN lc (Utf8.decode s pos).1) m (by omega) hf (by omega)
      have e1 : spotsOf A (m + 1) pos lc = spotAt s pos lc :: spotsOf A m (pos + (Utf8.decode s pos).2) (stepN lc (Utf8.decode s pos).1) := by
        simp only [spotsOf, if_pos (show pos < A.size by omega), spotAt, hA pos hp]
      have e2 : spotsOf s (k + 1) pos lc = spotAt s pos lc :: spotsOf s k (pos + (Utf8.decode s pos).2) (stepN lc (Utf8.decode s pos).1) := by simp only [spotsOf, if_pos hp]
      have e3 : endOf s (k + 1) pos lc = endOf s k (pos + (Utf8.decode s pos).2) (stepN lc (Utf8.decode s pos).1) := by simp only [endOf, if_pos hp]
      have e4 : endOf A (m + 1) pos lc = endOf A m (pos + (Utf8.decode s pos).2) (stepN lc (Utf8.decode s pos).1) := by simp only [endOf, if_pos (show pos < A.size by omega), hA pos hp]
      rw [e1, e2, e3, e4, i1, i2, List.cons_append]
      exact ⟨by rw [spots_more A m (m + 1) s.size _ (by omega) (by omega)], end_more A m (m + 1) s.size _ (by omega) (by omega)⟩
    · have : pos = s.size := by omega
      subst this
      rw [spots_stop s (k + 1) _ lc (by omega), end_stop s (k + 1) _ lc (by omega)]
      exact ⟨rfl, rfl⟩

/-- .. and behind it. -/
def shift (n : Nat) (d : Int) (x : Spot) : Spot := { x with at' := n + x.at', line := x.line + d }
theorem spots_back (s u : ByteArray) (d : Int) : ∀ (k pos : Nat) (lc : Int × Int), spotsOf (s ++ u) k (s.size + pos) (lc.1 + d, lc.2) = (spotsOf u k pos lc).map (shift s.size d)
  | 0, _, _ => rfl
  | k + 1, pos, lc => by
    have hst : stepN (lc.1 + d, lc.2) (Utf8.decode u pos).1 = ((stepN lc (Utf8.decode u pos).1).1 + d, (stepN lc (Utf8.decode u pos).1).2) := by
      unfold stepN; split <;> simp only [Prod.mk.injEq, and_true] <;> omega
    simp only [spotsOf, ByteArray.size_append]
    by_cases h : pos < u.size
    · rw [if_pos (by omega), if_pos h, List.map_cons, dec_back, hst, Nat.add_assoc, spots_back s u d k]
      congr 1
      simp only [spotAt, shift, dec_back]
    · rw [if_neg (by omega), if_neg h]; rfl

theorem spots_add (s t : ByteArray) : spots (s ++ bs [10] ++ t) = spots s ++ ⟨10, s.size, 1, (endS s).1, (endS s).2, false⟩ :: (spots t).map (shift (s.size + 1) (endS s).1) ∧ endS (s ++ bs [10]) = ((endS s).1 + 1, 1) := by
  have z1 : (bs [10]).size = 1 := rfl
  have g1 : (bs [10]).get! 0 = 10 := rfl
  have d1 : Utf8.decode (bs [10]) 0 = (10, 1) := by decide
  have hu : ∀ t : ByteArray, (bs [10] ++ t).get! 0 = 10 := fun t => by rw [get_app, if_pos (by rw [z1]; omega), g1]
  have hd : ∀ t : ByteArray, Utf8.decode (bs [10] ++ t) 0 = (10, 1) := by
    intro t
    unfold Utf8.decode
    simp only [Nat.add_zero, hu]
    rfl
  have hz : ∀ t : ByteArray, (bs [10] ++ t).size = 1 + t.size := fun t => by rw [ByteArray.size_append, z1]
  constructor
  · have hA := spots_front s (s ++ (bs [10] ++ t)) (fun i hi => dec_front s _ (by rw [hz]; omega) (hu t) i hi) (by rw [ByteArray.size_append]; omega) s.size 0 (1, 1) (s ++ (bs [10] ++ t)).size (by omega) (by omega) (by omega)
    rw [ByteArray.append_assoc, spots_def, hA.1, ← spots_def, ← endS_def]
    congr 1
    have hb := dec_back s (bs [10] ++ t) 0
    rw [Nat.add_zero, hd] at hb
    have e : (s ++ (bs [10] ++ t)).size = s.size + t.size + 1 := by rw [ByteArray.size_append, hz]; omega
    rw [e]
    have hst : stepN (endS s) 10 = (1 + (endS s).1, 1) := by unfold stepN; rw [if_pos rfl, Int.add_comm]
    simp only [spotsOf, if_pos (show s.size < (s ++ (bs [10] ++ t)).size by rw [e]; omega), spotAt, hb, hst]
    congr 1
    have := spots_back (s ++ bs [10]) t (endS s).1 (s.size + t.size) 0 (1, 1)
    rw [ByteArray.append_assoc, Nat.add_zero, ByteArray.size_append, z1] at this
    rw [this, spots_def, spots_more t t.size (s.size + t.size) 0 (1, 1) (by omega) (by omega)]
  · have hA := spots_front s (s ++ bs [10]) (fun i hi => dec_front s _ (by rw [z1]; omega) g1 i hi) (by rw [ByteArray.size_append]; omega) s.size 0 (1, 1) (s ++ bs [10]).size (by omega) (by omega) (by omega)
    rw [endS_def, hA.2, ← endS_def]
    have hb := dec_back s (bs [10]) 0
    rw [Nat.add_zero, d1] at hb
    have e : (s ++ bs [10]).size = s.size + 1 := by rw [ByteArray.size_append, z1]
    rw [e]
    simp only [endOf, if_pos (show s.size < (s ++ bs [10]).size by rw [e]; omega), hb]
    rw [end_stop _ _ _ _ (by rw [e]; omega)]
    unfold stepN; rw [if_pos rfl]
end Go.Proofs.YtcmedbbikpdgmaaDoor
