/-
  Walks of functions of the program, and what the laws need of them.
-/
import Derived.Test.YtmfkngldfphhmaaDoorRGlyphA
set_option linter.all false
set_option linter.unusedSimpArgs false
set_option linter.unusedVariables false
set_option linter.unnecessarySimpa false
namespace Go.Proofs.YtmfkngldfphhmaaDoor
open Go Go.Proofs.YtmfkngldfphhmaaDoor.V Go.Proofs

/-! ### Texts, one behind the other -/
theorem gapp_list (a b : ByteArray) : (a ++ b).data.toList = a.data.toList ++ b.data.toList := by simp
theorem gsz_list (a : ByteArray) : a.data.toList.length = a.size := by rw [Array.length_toList]; rfl
theorem gget_app (a b : ByteArray) (i : Nat) : (a ++ b).get! i = if i < a.size then a.get! i else b.get! (i - a.size) := by
  rw [get_eq, get_eq, get_eq, gapp_list, List.getElem?_append, gsz_list]
  split <;> rfl

/-- What is read of a text behind which there is another one that begins with no byte within a rune. -/
theorem gdec_front (s u : ByteArray) (h64 : ¬ (u.get! 0).toNat / 64 = 2) (i : Nat) (hi : i < s.size) : Utf8.decode (s ++ u) i = Utf8.decode s i := by
  have g : ∀ k, i + k < s.size → (s ++ u).get! (i + k) = s.get! (i + k) := fun k hk => by rw [gget_app, if_pos hk]
  have g10 : ∀ k, i + k = s.size → (s ++ u).get! (i + k) = u.get! 0 := fun k hk => by rw [gget_app, if_neg (by omega), hk, Nat.sub_self]
  have sz : (s ++ u).size = s.size + u.size := ByteArray.size_append
  have c : ∀ k, i + k < s.size → (decide (i + k < (s ++ u).size) && ((s ++ u).get! (i + k)).toNat / 64 == 2) = (decide (i + k < s.size) && (s.get! (i + k)).toNat / 64 == 2) := by
    intro k hk
    rw [g k hk, decide_eq_true (show i + k < (s ++ u).size by rw [sz]; omega), decide_eq_true hk]
  have c1 : ∀ k, i + k = s.size → (decide (i + k < (s ++ u).size) && ((s ++ u).get! (i + k)).toNat / 64 == 2) = (decide (i + k < s.size) && (s.get! (i + k)).toNat / 64 == 2) := by
    intro k hk
    rw [g10 k hk, decide_eq_false (show ¬ i + k < s.size by omega), Bool.false_and, Bool.and_eq_false_iff]
    exact .inr (by simpa using h64)
  unfold Utf8.decode
  simp only [g 0 hi]
  rcases Nat.lt_or_ge (i + 1) s.size with h1 | h1
  · rcases Nat.lt_or_ge (i + 2) s.size with h2 | h2
    · rcases Nat.lt_or_ge (i + 3) s.size with h3 | h3
      · simp only [c 1 h1, c 2 h2, c 3 h3]
        simp only [g 1 h1, g 2 h2, g 3 h3]
      · have e3 := c1 3 (by omega)
        simp only [c 1 h1, c 2 h2, e3]
        simp only [g 1 h1, g 2 h2]
        rw [decide_eq_false (show ¬ i + 3 < s.size by omega)]
        simp
    · have e2 := c1 2 (by omega)
      simp only [c 1 h1, e2]
      simp only [g 1 h1]
      rw [decide_eq_false (show ¬ i + 2 < s.size by omega)]
      simp
  · have e1 := c1 1 (by omega)
    simp only [e1]
    rw [decide_eq_false (show ¬ i + 1 < s.size by omega)]
    simp
/-- .. and of the other one. -/
theorem gdec_back (s u : ByteArray) (i : Nat) : Utf8.decode (s ++ u) (s.size + i) = Utf8.decode u i := by
  have g : ∀ k, (s ++ u).get! (s.size + i + k) = u.get! (i + k) := fun k => by rw [gget_app, if_neg (by omega)]; congr 1; omega
  have sz : (s ++ u).size = s.size + u.size := ByteArray.size_append
  have c : ∀ k, decide (s.size + i + k < (s ++ u).size) = decide (i + k < u.size) := by
    intro k
    rw [sz]
    exact decide_eq_decide.2 (by omega)
  unfold Utf8.decode
  simp only [g, c]

/-- The places in the front. -/
theorem gspots_front (s A : ByteArray) (hA : ∀ i, i < s.size → Utf8.decode A i = Utf8.decode s i) (hs : s.size ≤ A.size) : ∀ (k pos : Nat) (lc : Int × Int) (m : Nat), s.size ≤ pos + k → pos ≤ s.size → A.size - pos ≤ m →
    ∃ lc', spotsOf A m pos lc = spotsOf s k pos lc ++ spotsOf A m s.size lc'
  | 0, pos, lc, m, h1, h2, _ => by
    have : pos = s.size := by omega
    subst this
    exact ⟨lc, rfl⟩
  | k + 1, pos, lc, m, h1, h2, h3 => by
    rcases Nat.lt_or_ge pos s.size with hp | hp
    · obtain ⟨m, rfl⟩ : ∃ m', m = m' + 1 := ⟨m - 1, by omega⟩
      have hd := decode_pos s pos
      have hf := decode_fit hp
      obtain ⟨lc', i1⟩ := gspots_front s A hA hs k (pos + (Utf8.decode s pos).2) (stepN lc (Utf8.decode s pos).1) m (by omega) hf (by omega)
      have e1 : spotsOf A (m + 1) pos lc = spotAt s pos lc :: spotsOf A m (pos + (Utf8.decode s pos).2) (stepN lc (Utf8.decode s pos).1) := by
        simp only [spotsOf, if_pos (show pos < A.size by omega), spotAt, hA pos hp]
      have e2 : spotsOf s (k + 1) pos lc = spotAt s pos lc :: spotsOf s k (pos + (Utf8.decode s pos).2) (stepN lc (Utf8.decode s pos).1) := by simp only [spotsOf, if_pos hp]
      rw [e1, e2, i1]
      exact ⟨lc', by rw [spots_more A m (m + 1) s.size _ (by omega) (by omega)]; rfl⟩
    · have : pos = s.size := by omega
      subst this
      rw [spots_stop s (k + 1) _ lc (by omega)]
      exact ⟨lc, rfl⟩
/-- One rune more. -/
theorem spots_one (s u : ByteArray) (hu : 0 < u.size) (h64 : ¬ (u.get! 0).toNat / 64 = 2) (h1 : (Utf8.decode u 0).2 = u.size) :
    ∃ x, spots (s ++ u) = spots s ++ [x] ∧ x.rune = (Utf8.decode u 0).1 ∧ x.bad = decide ((Utf8.decode u 0).1 = 65533 ∧ (Utf8.decode u 0).2 = 1) := by
  have sz : (s ++ u).size = s.size + u.size := ByteArray.size_append
  obtain ⟨lc', e⟩ := gspots_front s (s ++ u) (fun i hi => gdec_front s u h64 i hi) (by omega) s.size 0 (1, 1) (s ++ u).size (by omega) (by omega) (by omega)
  have hb := gdec_back s u 0
  rw [Nat.add_zero] at hb
  refine ⟨spotAt (s ++ u) s.size lc', ?_, ?_, ?_⟩
  · have e2 : spotsOf (s ++ u) (s ++ u).size s.size lc' = [spotAt (s ++ u) s.size lc'] := by
      obtain ⟨m, hm⟩ : ∃ m, (s ++ u).size = m + 1 := ⟨s.size + u.size - 1, by omega⟩
      rw [show spotsOf (s ++ u) (s ++ u).size s.size lc' = spotsOf (s ++ u) (m + 1) s.size lc' by rw [hm]]
      simp only [spotsOf, if_pos (show s.size < (s ++ u).size by omega)]
      rw [spots_stop _ _ _ _ (by rw [hb, h1]; omega)]
    rw [e2] at e
    unfold spots
    exact e
  · simp only [spotAt, hb]
  · simp only [spotAt, hb]
/-- The first rune. -/
theorem spots_first (s : ByteArray) (hs : 0 < s.size) : ∃ l, spots s = spotAt s 0 (1, 1) :: l := by
  obtain ⟨m, hm⟩ : ∃ m, s.size = m + 1 := ⟨s.size - 1, by omega⟩
  refine ⟨spotsOf s m (0 + (Utf8.decode s 0).2) (stepN (1, 1) (Utf8.decode s 0).1), ?_⟩
  unfold spots
  rw [show spotsOf s s.size 0 (1, 1) = spotsOf s (m + 1) 0 (1, 1) by rw [hm]]
  simp only [spotsOf, if_pos hs]
end Go.Proofs.YtmfkngldfphhmaaDoor
