/-
  Walks of functions of the program, and what the laws need of them.
-/
import Derived.Test.YtnphhelbianjpaaGreatDoorRPQ
set_option linter.all false
set_option linter.unusedSimpArgs false
set_option linter.unusedVariables false
set_option linter.unnecessarySimpa false
namespace Go.Proofs.YtnphhelbianjpaaGreatDoor
set_option maxRecDepth 20000
open Go Go.Proofs.YtnphhelbianjpaaGreatDoor.V Go.Proofs
def okE (p : Prg) (e : P3) : Prop := ∃ (t : Nat) (ins : List Ins), e.1 = t ∧ p.threads[t]? = some ins
def opE (p : Prg) (e : P3) : Prop := ∃ (t : Nat) (ins : List Ins), e.1 = t ∧ p.threads[t]? = some ins ∧ frP ins [] e.2.1 e.2.2
section
attribute [local irreducible] TwS TwR thenT inBlockT retT
set_option maxHeartbeats 20000000 in
theorem back_x (p : Prg) (hO : okL p) (l : List Acc) (hl : l.length ≤ 896) (hla : ∀ a ∈ l, atL p a.th a.ins) (r : Nat) (hr : r < l.length) : PureX prog Tabs 124 [.agg (cPrg p), rwA l, tI r] (QB l.length) := by
 have hml : (l.map cAcc).length = l.length := lM ..
 have hR : l[r]? = some l[r] := List.getElem?_eq_getElem hr
 have hget : ∀ k, k < l.length → ∃ x, l[k]? = some x ∧ x ∈ l := fun k hk => ⟨l[k], List.getElem?_eq_getElem hk, List.getElem_mem hk⟩
 generalize l[r] = R at hR
 obtain ⟨n, hne⟩ : ∃ n, n = l.length := ⟨_, rfl⟩
 have hmk : List.replicate n ([Value.bool false].map TV.v) = (List.replicate n false).map fun b => [tB b] := by rw [List.map_replicate]; rfl
 have hln : (List.replicate n false).length = n := List.length_replicate
 refine PureX.at mixedOk F124 rfl fun C hP hG hp => goF ?_; simp only [F124, targEnv, Nat.zero_add, Nat.reduceAdd]
 repeat' (first | refine goR rfl ?_ | refine goS rfl ?_ | refine tret1 rfl ?_ | refine tretN rfl ?_ | refine gY rfl rfl ?_ | refine gN rfl rfl ?_ | refine qT rfl rfl ?_ | refine qF rfl rfl ?_ | refine tr_makeY rfl rfl rfl rfl (congrArg Nat.cast (hml.trans hne.symm)) hmk (by omega) ?_ | refine tg_f rfl (dF (by omega)) ?_ | refine qF rfl (dF (by omega)) ?_ | fail)
 refine loopS (fun m env σ => ∃ (is : List Bool) (k : Nat), is.length = n ∧ k ≤ n ∧ m = n - k ∧ env = [(1, rwA l), (2, tI r), (3, .p 0 0), (7, .s 1 1 0 n true), (8, .s 2 1 0 n true), (9, tI k)] ∧ σ = ⟨[(0, .cells (cPrg p) 28), (1, .rows 1 ((List.replicate n false).map fun b => [tB b]) 4), (2, .rows 1 (is.map fun b => [tB b]) 4)], 60⟩) n (w_canon 60 [] [1, 2, 3, 7, 8, 9] hp rfl rfl rfl rfl) ⟨_, 0, hln, Nat.zero_le _, rfl, rfl, rfl⟩ ?_
 rintro m1 env σ ⟨is, k, his, hk, rfl, rfl, rfl⟩
 have hw1 : IntKind.i64.wrap ((k : Int) + 1) = ((k + 1 : Nat) : Int) := by rw [w64 (by omega)]; rfl
 by_cases hkn : k < n
 ·obtain ⟨x, hx, hxm⟩ := hget k (by omega)
  have cC := clash_x R x
  repeat' (first | refine goR rfl ?_ | refine goS rfl ?_ | refine tret1 rfl ?_ | refine tretN rfl ?_ | refine gY rfl rfl ?_ | refine gN rfl rfl ?_ | refine qT rfl rfl ?_ | refine qF rfl rfl ?_ | refine qT rfl (dT (by omega)) ?_ | refine lT (tl_ixm rfl rfl rfl hR) ?_ | refine lT (tl_ixm rfl rfl rfl hx) ?_ | (refine tr_callX rfl (by rw [hP, hG]; exact cC) rfl ?_; rintro _ ⟨fb, rfl⟩) | refine lT (tl_ixo (m := k) rfl rfl rfl (by omega)) ?_ | refine tr_storeB rfl rfl rfl (by omega) rfl ?_ | fail)
  exact again (m' := n - (k + 1)) (by omega) (w_canon 60 [] [1, 2, 3, 7, 8, 9] hp rfl rfl rfl rfl) ⟨is.set k fb, k + 1, by rw [List.length_set]; exact his, hkn, rfl, by rw [hw1], rfl⟩
 ·repeat' (first | refine goR rfl ?_ | refine goS rfl ?_ | refine tret1 rfl ?_ | refine tretN rfl ?_ | refine gY rfl rfl ?_ | refine gN rfl rfl ?_ | refine qT rfl rfl ?_ | refine qF rfl rfl ?_ | refine qF rfl (dF (by omega)) ?_ | fail)
  refine loopS (fun m env σ => ∃ (is : List Bool) (mv : Bool), is.length = n ∧ m = 2 * cF is + (if mv = true then 1 else 0) ∧ env = [(1, rwA l), (2, tI r), (3, .p 0 0), (7, .s 1 1 0 n true), (8, .s 2 1 0 n true), (10, tB mv)] ∧ σ = ⟨[(0, .cells (cPrg p) 28), (1, .rows 1 ((List.replicate n false).map fun b => [tB b]) 4), (2, .rows 1 (is.map fun b => [tB b]) 4)], 60⟩) (2 * cF is + 1) (w_canon 60 [] [1, 2, 3, 7, 8, 10] hp rfl rfl rfl rfl) ⟨is, true, his, rfl, rfl, rfl⟩ ?_
  clear his hkn hw1 hk
  rintro m1 env σ ⟨is, mv, his, rfl, rfl, rfl⟩
  cases mv with
  | true =>
   repeat' (first | refine goR rfl ?_ | refine goS rfl ?_ | refine tret1 rfl ?_ | refine tretN rfl ?_ | refine gY rfl rfl ?_ | refine gN rfl rfl ?_ | refine qT rfl rfl ?_ | refine qF rfl rfl ?_ | fail)
   refine loopS (fun m env σ => ∃ (is' : List Bool) (mv : Bool) (i : Nat), is'.length = n ∧ i ≤ n ∧ m = n - i ∧ cF is' + (if mv = true then 1 else 0) ≤ cF is ∧ env = [(1, rwA l), (2, tI r), (3, .p 0 0), (7, .s 1 1 0 n true), (8, .s 2 1 0 n true), (10, tB mv), (11, tI i)] ∧ σ = ⟨[(0, .cells (cPrg p) 28), (1, .rows 1 ((List.replicate n false).map fun b => [tB b]) 4), (2, .rows 1 (is'.map fun b => [tB b]) 4)], 60⟩) n (w_canon 60 [] [1, 2, 3, 7, 8, 10, 11] hp rfl rfl rfl rfl) ⟨is, false, 0, his, Nat.zero_le _, rfl, Nat.le_refl _, rfl, rfl⟩ ?_
   rintro m2 env σ ⟨is', mv, i, h1, h2, rfl, h3, rfl, rfl⟩
   have hw1 : IntKind.i64.wrap ((i : Int) + 1) = ((i + 1 : Nat) : Int) := by rw [w64 (by omega)]; rfl
   by_cases hin : i < n
   ·obtain ⟨x, hx, hxm⟩ := hget i (by omega)
    repeat' (first | refine goR rfl ?_ | refine goS rfl ?_ | refine tret1 rfl ?_ | refine tretN rfl ?_ | refine gY rfl rfl ?_ | refine gN rfl rfl ?_ | refine qT rfl rfl ?_ | refine qF rfl rfl ?_ | refine qT rfl (dT (by omega)) ?_ | fail)
    refine loopS (fun m env σ => ∃ (is' : List Bool) (mv : Bool) (k : Nat), is'.length = n ∧ k ≤ n ∧ m = n - k ∧ cF is' + (if mv = true then 1 else 0) ≤ cF is ∧ env = [(1, rwA l), (2, tI r), (3, .p 0 0), (7, .s 1 1 0 n true), (8, .s 2 1 0 n true), (10, tB mv), (11, tI i), (12, tI k)] ∧ σ = ⟨[(0, .cells (cPrg p) 28), (1, .rows 1 ((List.replicate n false).map fun b => [tB b]) 4), (2, .rows 1 (is'.map fun b => [tB b]) 4)], 60⟩) n (w_canon 60 [] [1, 2, 3, 7, 8, 10, 11, 12] hp rfl rfl rfl rfl) ⟨is', mv, 0, h1, Nat.zero_le _, rfl, h3, rfl, rfl⟩ ?_
    clear h1 h3
    rintro m3 env σ ⟨is', mv, k, h1, h2, rfl, h3, rfl, rfl⟩
    have hw2 : IntKind.i64.wrap ((k : Int) + 1) = ((k + 1 : Nat) : Int) := by rw [w64 (by omega)]; rfl
    by_cases hkn : k < n
    ·obtain ⟨y, hy, hym⟩ := hget k (by omega)
     cases ha : is'.getD i false with
     | false =>
      repeat' (first | refine goR rfl ?_ | refine goS rfl ?_ | refine tret1 rfl ?_ | refine tretN rfl ?_ | refine gY rfl rfl ?_ | refine gN rfl rfl ?_ | refine qT rfl rfl ?_ | refine qF rfl rfl ?_ | refine tg_t rfl (dT (by omega)) ?_ | refine lT (tl_ixo (m := i) rfl rfl rfl (by omega)) ?_ | (refine lT (tl_ldB rfl rfl (by omega)) ?_; rw [ha]) | fail)
      exact again (m' := n - (i + 1)) (by omega) (w_canon 60 [] [1, 2, 3, 7, 8, 10, 11] hp rfl rfl rfl rfl) ⟨is', mv, i + 1, h1, hin, rfl, h3, by rw [hw1], rfl⟩
     | true =>
      cases hb : is'.getD k false with
      | true =>
       repeat' (first | refine goR rfl ?_ | refine goS rfl ?_ | refine tret1 rfl ?_ | refine tretN rfl ?_ | refine gY rfl rfl ?_ | refine gN rfl rfl ?_ | refine qT rfl rfl ?_ | refine qF rfl rfl ?_ | refine tg_t rfl (dT (by omega)) ?_ | refine lT (tl_ixo (m := i) rfl rfl rfl (by omega)) ?_ | refine lT (tl_ixo (m := k) rfl rfl rfl (by omega)) ?_ | (refine lT (tl_ldB rfl rfl (by omega)) ?_; first | rw [ha] | rw [hb]) | fail)
       exact again (m' := n - (k + 1)) (by omega) (w_canon 60 [] [1, 2, 3, 7, 8, 10, 11, 12] hp rfl rfl rfl rfl) ⟨is', mv, k + 1, h1, hkn, rfl, h3, by rw [hw2], rfl⟩
      | false =>
       have hc := cF_set (j := k) (by omega) hb
       by_cases hth : y.th = R.th
       ·repeat' (first | refine goR rfl ?_ | refine goS rfl ?_ | refine tret1 rfl ?_ | refine tretN rfl ?_ | refine gY rfl rfl ?_ | refine gN rfl rfl ?_ | refine qT rfl rfl ?_ | refine qF rfl rfl ?_ | refine tg_t rfl (dT (by omega)) ?_ | refine lT (tl_ixo (m := i) rfl rfl rfl (by omega)) ?_ | refine lT (tl_ixo (m := k) rfl rfl rfl (by omega)) ?_ | (refine lT (tl_ldB rfl rfl (by omega)) ?_; first | rw [ha] | rw [hb]) | refine lT (tl_ixm rfl rfl rfl hy) ?_ | refine lT (tl_ixm rfl rfl rfl hR) ?_ | refine tg_f rfl (ndF hth) ?_ | fail)
        exact again (m' := n - (k + 1)) (by omega) (w_canon 60 [] [1, 2, 3, 7, 8, 10, 11, 12] hp rfl rfl rfl rfl) ⟨is', mv, k + 1, h1, hkn, rfl, h3, by rw [hw2], rfl⟩
       ·have cC := clash_x x y
        have cW := follows_x p hO x y (hla x hxm) (hla y hym)
        repeat' (first | refine goR rfl ?_ | refine goS rfl ?_ | refine tret1 rfl ?_ | refine tretN rfl ?_ | refine gY rfl rfl ?_ | refine gN rfl rfl ?_ | refine qT rfl rfl ?_ | refine qF rfl rfl ?_ | refine tg_t rfl (dT (by omega)) ?_ | refine lT (tl_ixo (m := i) rfl rfl rfl (by omega)) ?_ | refine lT (tl_ixo (m := k) rfl rfl rfl (by omega)) ?_ | (refine lT (tl_ldB rfl rfl (by omega)) ?_; first | rw [ha] | rw [hb]) | refine lT (tl_ixm rfl rfl rfl hy) ?_ | refine lT (tl_ixm rfl rfl rfl hR) ?_ | refine lT (tl_ixm rfl rfl rfl hx) ?_ | refine tg_t rfl (ndT hth) ?_ | (refine tr_callX rfl (by rw [hP, hG]; exact cC) rfl ?_; rintro _ ⟨fb, rfl⟩; cases fb) | (refine tr_callX rfl (by rw [hP, hG]; exact cW) rfl ?_; rintro _ ⟨fb, rfl⟩; cases fb) | refine tr_storeB rfl rfl rfl (by omega) rfl ?_ | fail)
        ·exact again (m' := n - (k + 1)) (by omega) (w_canon 60 [] [1, 2, 3, 7, 8, 10, 11, 12] hp rfl rfl rfl rfl) ⟨is', mv, k + 1, h1, hkn, rfl, h3, by rw [hw2], rfl⟩
        ·exact again (m' := n - (k + 1)) (by omega) (w_canon 60 [] [1, 2, 3, 7, 8, 10, 11, 12] hp rfl rfl rfl rfl) ⟨is'.set k true, true, k + 1, by rw [List.length_set]; exact h1, hkn, rfl, by rw [if_pos rfl]; omega, by rw [hw2]; rfl, rfl⟩
        ·exact again (m' := n - (k + 1)) (by omega) (w_canon 60 [] [1, 2, 3, 7, 8, 10, 11, 12] hp rfl rfl rfl rfl) ⟨is'.set k true, true, k + 1, by rw [List.length_set]; exact h1, hkn, rfl, by rw [if_pos rfl]; omega, by rw [hw2]; rfl, rfl⟩
    ·repeat' (first | refine goR rfl ?_ | refine goS rfl ?_ | refine tret1 rfl ?_ | refine tretN rfl ?_ | refine gY rfl rfl ?_ | refine gN rfl rfl ?_ | refine qT rfl rfl ?_ | refine qF rfl rfl ?_ | refine tg_f rfl (dF (by omega)) ?_ | fail)
     exact again (m' := n - (i + 1)) (by omega) (w_canon 60 [] [1, 2, 3, 7, 8, 10, 11] hp rfl rfl rfl rfl) ⟨is', mv, i + 1, h1, hin, rfl, h3, by rw [hw1], rfl⟩
   ·repeat' (first | refine goR rfl ?_ | refine goS rfl ?_ | refine tret1 rfl ?_ | refine tretN rfl ?_ | refine gY rfl rfl ?_ | refine gN rfl rfl ?_ | refine qT rfl rfl ?_ | refine qF rfl rfl ?_ | refine qF rfl (dF (by omega)) ?_ | fail)
    exact again (m' := 2 * cF is' + (if mv = true then 1 else 0)) (by rw [if_pos rfl]; cases mv <;> simp at h3 ⊢ <;> omega) (w_canon 60 [] [1, 2, 3, 7, 8, 10] hp rfl rfl rfl rfl) ⟨is', mv, h1, rfl, rfl, rfl⟩
  | false =>
   repeat' (first | refine goR rfl ?_ | refine goS rfl ?_ | refine tret1 rfl ?_ | refine tretN rfl ?_ | refine gY rfl rfl ?_ | refine gN rfl rfl ?_ | refine qT rfl rfl ?_ | refine qF rfl rfl ?_ | fail)
   refine loopS (fun m env σ => ∃ (ou : List Bool) (i : Nat), ou.length = n ∧ i ≤ n ∧ m = n - i ∧ env = [(1, rwA l), (2, tI r), (7, .s 0 1 0 n true), (8, .s 1 1 0 n true), (13, tI i)] ∧ σ = ⟨[(0, .rows 1 (ou.map fun b => [tB b]) 4), (1, .rows 1 (is.map fun b => [tB b]) 4)], 60⟩) n (w_canon 60 [] [1, 2, 7, 8, 13] hp rfl rfl rfl rfl) ⟨_, 0, hln, Nat.zero_le _, rfl, rfl, rfl⟩ ?_
   rintro m1 env σ ⟨ou, i, hou, hi, rfl, rfl, rfl⟩
   have hw1 : IntKind.i64.wrap ((i : Int) + 1) = ((i + 1 : Nat) : Int) := by rw [w64 (by omega)]; rfl
   by_cases hin : i < n
   ·obtain ⟨x, hx, hxm⟩ := hget i (by omega)
    repeat' (first | refine goR rfl ?_ | refine goS rfl ?_ | refine tret1 rfl ?_ | refine tretN rfl ?_ | refine gY rfl rfl ?_ | refine gN rfl rfl ?_ | refine qT rfl rfl ?_ | refine qF rfl rfl ?_ | refine qT rfl (dT (by omega)) ?_ | fail)
    refine loopS (fun m env σ => ∃ (ou : List Bool) (k : Nat), ou.length = n ∧ k ≤ n ∧ m = n - k ∧ env = [(1, rwA l), (2, tI r), (7, .s 0 1 0 n true), (8, .s 1 1 0 n true), (13, tI i), (14, tI k)] ∧ σ = ⟨[(0, .rows 1 (ou.map fun b => [tB b]) 4), (1, .rows 1 (is.map fun b => [tB b]) 4)], 60⟩) n (w_canon 60 [] [1, 2, 7, 8, 13, 14] hp rfl rfl rfl rfl) ⟨ou, 0, hou, Nat.zero_le _, rfl, rfl, rfl⟩ ?_
    clear hou
    rintro m2 env σ ⟨ou, k, hou, hk, rfl, rfl, rfl⟩
    have hw2 : IntKind.i64.wrap ((k : Int) + 1) = ((k + 1 : Nat) : Int) := by rw [w64 (by omega)]; rfl
    by_cases hkn : k < n
    ·obtain ⟨y, hy, hym⟩ := hget k (by omega)
     by_cases hth : x.th = R.th
     ·have cC := clash_x y x
      cases ha : ou.getD i false <;> cases hb : is.getD k false
      all_goals repeat' (first | refine goR rfl ?_ | refine goS rfl ?_ | refine tret1 rfl ?_ | refine tretN rfl ?_ | refine gY rfl rfl ?_ | refine gN rfl rfl ?_ | refine qT rfl rfl ?_ | refine qF rfl rfl ?_ | refine tg_t rfl (dT (by omega)) ?_ | refine lT (tl_ixo (m := i) rfl rfl rfl (by omega)) ?_ | refine lT (tl_ixo (m := k) rfl rfl rfl (by omega)) ?_ | (refine lT (tl_ldB rfl rfl (by omega)) ?_; first | rw [ha] | rw [hb]) | refine lT (tl_ixm rfl rfl rfl hy) ?_ | refine lT (tl_ixm rfl rfl rfl hR) ?_ | refine lT (tl_ixm rfl rfl rfl hx) ?_ | refine qT rfl (dT hth) ?_ | (refine tr_callX rfl (by rw [hP, hG]; exact cC) rfl ?_; rintro _ ⟨fb, rfl⟩) | refine tr_storeB rfl rfl rfl (by omega) rfl ?_ | fail)
      all_goals exact again (m' := n - (k + 1)) (by omega) (w_canon 60 [] [1, 2, 7, 8, 13, 14] hp rfl rfl rfl rfl) ⟨ou.set i _, k + 1, by rw [List.length_set]; exact hou, hkn, rfl, by rw [hw2], rfl⟩
     ·repeat' (first | refine goR rfl ?_ | refine goS rfl ?_ | refine tret1 rfl ?_ | refine tretN rfl ?_ | refine gY rfl rfl ?_ | refine gN rfl rfl ?_ | refine qT rfl rfl ?_ | refine qF rfl rfl ?_ | refine tg_t rfl (dT (by omega)) ?_ | refine lT (tl_ixm rfl rfl rfl hR) ?_ | refine lT (tl_ixm rfl rfl rfl hx) ?_ | refine qF rfl (dF hth) ?_ | fail)
      exact again (m' := n - (i + 1)) (by omega) (w_canon 60 [] [1, 2, 7, 8, 13] hp rfl rfl rfl rfl) ⟨ou, i + 1, hou, hin, rfl, by rw [hw1], rfl⟩
    ·repeat' (first | refine goR rfl ?_ | refine goS rfl ?_ | refine tret1 rfl ?_ | refine tretN rfl ?_ | refine gY rfl rfl ?_ | refine gN rfl rfl ?_ | refine qT rfl rfl ?_ | refine qF rfl rfl ?_ | refine tg_f rfl (dF (by omega)) ?_ | fail)
     exact again (m' := n - (i + 1)) (by omega) (w_canon 60 [] [1, 2, 7, 8, 13] hp rfl rfl rfl rfl) ⟨ou, i + 1, hou, hin, rfl, by rw [hw1], rfl⟩
   ·repeat' (first | refine goR rfl ?_ | refine goS rfl ?_ | refine tret1 rfl ?_ | refine tretN rfl ?_ | refine gY rfl rfl ?_ | refine gN rfl rfl ?_ | refine qT rfl rfl ?_ | refine qF rfl rfl ?_ | refine qF rfl (dF (by omega)) ?_ | fail)
    exact ⟨rwB ou, ⟨ou, hou.trans hne, rfl⟩, .s _ 1 _ true _ 4 rfl (by rw [lM, hou])⟩
end
end Go.Proofs.YtnphhelbianjpaaGreatDoor
namespace Go.Proofs.YtnphhelbianjpaaGreatDoor
set_option maxRecDepth 20000
open Go Go.Proofs.YtnphhelbianjpaaGreatDoor.V Go.Proofs
section
attribute [local irreducible] TwS TwR thenT inBlockT retT
set_option maxHeartbeats 20000000 in
theorem delays_x (p : Prg) (hO : okL p) : PureX prog Tabs 104 [.agg (cPrg p)] (fun r => ∃ l : List P3, r = rwP l ∧ l.length ≤ 1000000 ∧ ∀ e ∈ l, okE p e) := by
 have cA0 := accesses_x p hO
 have cB := back_x p hO
 obtain ⟨ho, hc, h64, hN⟩ := hO
 have ho3 := ho.2.2.2
 clear ho hc
 refine PureX.at mixedOk F104 rfl fun C hP hG hp => goF ?_; simp only [F104, targEnv, Nat.zero_add, Nat.reduceAdd]
 repeat' (first | refine goR rfl ?_ | refine goS rfl ?_ | refine tret1 rfl ?_ | refine tretN rfl ?_ | refine gY rfl rfl ?_ | refine gN rfl rfl ?_ | refine qT rfl rfl ?_ | refine qF rfl rfl ?_ | (refine tr_callX rfl (by rw [hP, hG]; exact cA0) rfl ?_; rintro _ ⟨l, rfl, hl, hla⟩) | fail)
 have hml : (l.map cAcc).length = l.length := lM ..
 have hget : ∀ k, k < l.length → ∃ x, l[k]? = some x ∧ x ∈ l := fun k hk => ⟨l[k], List.getElem?_eq_getElem hk, List.getElem_mem hk⟩
 refine loopS (fun m env σ => ∃ (o : List P3) (s : Nat), s ≤ l.length ∧ m = l.length - s ∧ o.length ≤ 896 * s ∧ (∀ e ∈ o, okE p e) ∧ env = [(1, .p 0 0), (3, rwA l), (4, .s 1 3 0 o.length true), (5, tI s)] ∧ σ = ⟨[(0, .cells (cPrg p) 28), (1, .rows 3 (o.map cP3) 169)], 60⟩) l.length ((w_virt (d := 4) 3 169 rfl).trans (w_canon 60 [] [1, 3, 4, 5] hp rfl rfl rfl rfl)) ⟨[], 0, Nat.zero_le _, rfl, Nat.le_refl _, (fun a h => by cases h), rfl, rfl⟩ ?_
 rintro m1 env σ ⟨o, s, hs, rfl, hol, hoe, rfl, rfl⟩
 have hw1 : IntKind.i64.wrap ((s : Int) + 1) = ((s + 1 : Nat) : Int) := by rw [w64 (by omega)]; rfl
 by_cases hsn : s < l.length
 ·obtain ⟨⟨a1, a2, a3, a4, a5, a6⟩, hx, hxm⟩ := hget s hsn
  have hat := hla _ hxm
  change atL p a1 a2 at hat
  cases a5 <;> cases a6
  ·repeat' (first | refine goR rfl ?_ | refine goS rfl ?_ | refine tret1 rfl ?_ | refine tretN rfl ?_ | refine gY rfl rfl ?_ | refine gN rfl rfl ?_ | refine qT rfl rfl ?_ | refine qF rfl rfl ?_ | refine qT rfl (dT (by omega)) ?_ | refine lT (tl_ixm rfl rfl rfl hx) ?_ | fail)
   exact again (m' := l.length - (s + 1)) (by omega) (w_canon 60 [] [1, 3, 4, 5] hp rfl rfl rfl rfl) ⟨o, s + 1, hsn, rfl, by omega, hoe, by rw [hw1], rfl⟩
  ·repeat' (first | refine goR rfl ?_ | refine goS rfl ?_ | refine tret1 rfl ?_ | refine tretN rfl ?_ | refine gY rfl rfl ?_ | refine gN rfl rfl ?_ | refine qT rfl rfl ?_ | refine qF rfl rfl ?_ | refine qT rfl (dT (by omega)) ?_ | refine lT (tl_ixm rfl rfl rfl hx) ?_ | fail)
   exact again (m' := l.length - (s + 1)) (by omega) (w_canon 60 [] [1, 3, 4, 5] hp rfl rfl rfl rfl) ⟨o, s + 1, hsn, rfl, by omega, hoe, by rw [hw1], rfl⟩
  ·obtain ⟨t, i, ins, rfl, rfl, ht, hi⟩ := hat
   have htm := List.mem_of_getElem? ht
   have cF := from_x ins (ho3 ins htm) (Nat.le_trans (hN ins htm) (by decide)) (i : Int)
   repeat' (first | refine goR rfl ?_ | refine goS rfl ?_ | refine tret1 rfl ?_ | refine tretN rfl ?_ | refine gY rfl rfl ?_ | refine gN rfl rfl ?_ | refine qT rfl rfl ?_ | refine qF rfl rfl ?_ | refine qT rfl (dT (by omega)) ?_ | refine lT (tl_ixm rfl rfl rfl hx) ?_ | refine lT (tl_ixm rfl rfl rfl ht) ?_ | (refine tr_callX rfl (by rw [hP, hG]; exact cF) rfl ?_; rintro _ ⟨is, his, rfl⟩) | fail)
   refine loopS (fun m env σ => ∃ (o : List P3) (r : Nat), r ≤ l.length ∧ m = l.length - r ∧ o.length ≤ 896 * s + r ∧ (∀ e ∈ o, okE p e) ∧ env = [(1, .p 0 0), (3, rwA l), (4, .s 1 3 0 o.length true), (5, tI s), (6, rwB is), (7, tI r)] ∧ σ = ⟨[(0, .cells (cPrg p) 28), (1, .rows 3 (o.map cP3) 169)], 60⟩) l.length (w_canon 60 [] [1, 3, 4, 5, 6, 7] hp rfl rfl rfl rfl) ⟨o, 0, Nat.zero_le _, rfl, hol, hoe, rfl, rfl⟩ ?_
   clear hol hoe
   rintro m2 env σ ⟨o, r, hr, rfl, hol, hoe, rfl, rfl⟩
   have hw2 : IntKind.i64.wrap ((r : Int) + 1) = ((r + 1 : Nat) : Int) := by rw [w64 (by omega)]; rfl
   by_cases hrn : r < l.length
   ·obtain ⟨⟨b1, b2, b3, b4, b5, b6⟩, hy, hym⟩ := hget r hrn
    have hat := hla _ hym
    change atL p b1 b2 at hat
    obtain ⟨u, j, jns, rfl, rfl, hu, hj⟩ := hat
    have cBr := cB l hl hla r hrn
    by_cases htu : u = t
    ·subst htu
     obtain rfl : ins = jns := by rw [ht] at hu; exact Option.some.inj hu
     obtain ⟨bj, hg⟩ : ∃ b, is[j]? = some b := ⟨_, List.getElem?_eq_getElem (by omega)⟩
     cases b5 <;> cases b6 <;> cases bj
     all_goals repeat' (first | refine goR rfl ?_ | refine goS rfl ?_ | refine tret1 rfl ?_ | refine tretN rfl ?_ | refine gY rfl rfl ?_ | refine gN rfl rfl ?_ | refine qT rfl rfl ?_ | refine qF rfl rfl ?_ | refine qT rfl (dT (by omega)) ?_ | refine tg_t rfl (dT rfl) ?_ | refine lT (tl_ixm rfl rfl rfl hx) ?_ | refine lT (tl_ixm rfl rfl rfl hy) ?_ | refine lT (tl_ixm rfl rfl rfl hg) ?_ | (refine tr_callX rfl (by rw [hP, hG]; exact cBr) rfl ?_; rintro _ ⟨is2, his2, rfl⟩; obtain ⟨bs, hg2⟩ : ∃ b, is2[s]? = some b := ⟨_, List.getElem?_eq_getElem (by omega)⟩; cases bs) | refine lT (tl_ixm rfl rfl rfl hg2) ?_ | refine tr_append rfl rfl (by rw [lM]) (.inr (.inr ⟨_, _, _, _, rfl, rfl, rfl⟩)) (by simp only [List.length_cons, List.length_nil]; omega) rfl ?_ | fail)
     all_goals first
      | exact again (m' := l.length - (r + 1)) (by omega) (w_canon 60 [] [1, 3, 4, 5, 6, 7] hp rfl rfl rfl rfl) ⟨o, r + 1, hrn, rfl, by omega, hoe, by rw [hw2], rfl⟩
      | exact again (m' := l.length - (r + 1)) (by omega) (w_canon 60 [] [1, 3, 4, 5, 6, 7] hp rfl rfl rfl rfl) ⟨o ++ [((u : Int), (i : Int), (j : Int))], r + 1, hrn, rfl, by rw [@lA _ o, List.length_singleton]; omega, (fun c hc => by
        rcases List.mem_append.1 hc with h | h
        ·exact hoe c h
        ·rw [List.mem_singleton.1 h]; exact ⟨u, ins, rfl, ht⟩), by rw [hw2, @lA _ o]; rfl, by rw [List.map_append]; rfl⟩
    ·repeat' (first | refine goR rfl ?_ | refine goS rfl ?_ | refine tret1 rfl ?_ | refine tretN rfl ?_ | refine gY rfl rfl ?_ | refine gN rfl rfl ?_ | refine qT rfl rfl ?_ | refine qF rfl rfl ?_ | refine qT rfl (dT (by omega)) ?_ | refine tg_f rfl (dF (fun h => htu (Int.ofNat.inj h))) ?_ | refine lT (tl_ixm rfl rfl rfl hx) ?_ | refine lT (tl_ixm rfl rfl rfl hy) ?_ | fail)
     exact again (m' := l.length - (r + 1)) (by omega) (w_canon 60 [] [1, 3, 4, 5, 6, 7] hp rfl rfl rfl rfl) ⟨o, r + 1, hrn, rfl, by omega, hoe, by rw [hw2], rfl⟩
   ·repeat' (first | refine goR rfl ?_ | refine goS rfl ?_ | refine tret1 rfl ?_ | refine tretN rfl ?_ | refine gY rfl rfl ?_ | refine gN rfl rfl ?_ | refine qT rfl rfl ?_ | refine qF rfl rfl ?_ | refine qF rfl (dF (by omega)) ?_ | fail)
    exact again (m' := l.length - (s + 1)) (by omega) (w_canon 60 [] [1, 3, 4, 5] hp rfl rfl rfl rfl) ⟨o, s + 1, hsn, rfl, by omega, hoe, by rw [hw1], rfl⟩
  ·repeat' (first | refine goR rfl ?_ | refine goS rfl ?_ | refine tret1 rfl ?_ | refine tretN rfl ?_ | refine gY rfl rfl ?_ | refine gN rfl rfl ?_ | refine qT rfl rfl ?_ | refine qF rfl rfl ?_ | refine qT rfl (dT (by omega)) ?_ | refine lT (tl_ixm rfl rfl rfl hx) ?_ | fail)
   exact again (m' := l.length - (s + 1)) (by omega) (w_canon 60 [] [1, 3, 4, 5] hp rfl rfl rfl rfl) ⟨o, s + 1, hsn, rfl, by omega, hoe, by rw [hw1], rfl⟩
 ·repeat' (first | refine goR rfl ?_ | refine goS rfl ?_ | refine tret1 rfl ?_ | refine tretN rfl ?_ | refine gY rfl rfl ?_ | refine gN rfl rfl ?_ | refine qT rfl rfl ?_ | refine qF rfl rfl ?_ | refine qF rfl (dF (by omega)) ?_ | fail)
  exact ⟨rwP o, ⟨o, rfl, by omega, hoe⟩, .s _ 3 _ true _ 169 rfl (by rw [lM])⟩
set_option maxHeartbeats 20000000 in
theorem open_x (p : Prg) (hO : okL p) : PureX prog Tabs 107 [.agg (cPrg p)] (fun r => ∃ l : List P3, r = rwP l ∧ l.length ≤ 1000000 ∧ ∀ e ∈ l, opE p e) := by
 have cD := delays_x p hO
 obtain ⟨ho, hc, h64, hN⟩ := hO
 have ho3 := ho.2.2.2
 clear ho hc
 refine PureX.at mixedOk F107 rfl fun C hP hG hp => goF ?_; simp only [F107, targEnv, Nat.zero_add, Nat.reduceAdd]
 repeat' (first | refine goR rfl ?_ | refine goS rfl ?_ | refine tret1 rfl ?_ | refine tretN rfl ?_ | refine gY rfl rfl ?_ | refine gN rfl rfl ?_ | refine qT rfl rfl ?_ | refine qF rfl rfl ?_ | (refine tr_callX rfl (by rw [hP, hG]; exact cD) rfl ?_; rintro _ ⟨l, rfl, hl, hle⟩) | fail)
 have hml : (l.map cP3).length = l.length := lM ..
 refine loopS (fun m env σ => ∃ (o : List P3) (s : Nat), s ≤ l.length ∧ m = l.length - s ∧ o.length ≤ s ∧ (∀ e ∈ o, opE p e) ∧ env = [(1, .p 0 0), (3, rwP l), (4, .s 1 3 0 o.length true), (5, tI s)] ∧ σ = ⟨[(0, .cells (cPrg p) 28), (1, .rows 3 (o.map cP3) 169)], 60⟩) l.length ((w_virt (d := 4) 3 169 rfl).trans (w_canon 60 [] [1, 3, 4, 5] hp rfl rfl rfl rfl)) ⟨[], 0, Nat.zero_le _, rfl, Nat.le_refl _, (fun a h => by cases h), rfl, rfl⟩ ?_
 rintro m1 env σ ⟨o, s, hs, rfl, hol, hoe, rfl, rfl⟩
 have hw1 : IntKind.i64.wrap ((s : Int) + 1) = ((s + 1 : Nat) : Int) := by rw [w64 (by omega)]; rfl
 by_cases hsn : s < l.length
 ·have hx : l[s]? = some l[s] := List.getElem?_eq_getElem hsn
  have hxm : l[s] ∈ l := List.getElem_mem hsn
  generalize l[s] = x at hx hxm
  obtain ⟨a1, a2, a3⟩ := x
  obtain ⟨t, ins, e1, ht⟩ := hle _ hxm
  change a1 = _ at e1
  subst e1
  have htm := List.mem_of_getElem? ht
  have cF := nil_atX [.agg (cTh ins)] [tI a2, tI a3] 1 (free_x ins (ho3 ins htm) (Nat.le_trans (hN ins htm) (by decide)) [] (Nat.zero_le _) a2 a3)
  repeat' (first | refine goR rfl ?_ | refine goS rfl ?_ | refine tret1 rfl ?_ | refine tretN rfl ?_ | refine gY rfl rfl ?_ | refine gN rfl rfl ?_ | refine qT rfl rfl ?_ | refine qF rfl rfl ?_ | refine qT rfl (dT (by omega)) ?_ | refine lT (tl_ixm rfl rfl rfl hx) ?_ | refine lT (tl_ixm rfl rfl rfl ht) ?_ | (refine tr_callX rfl (by rw [hP, hG]; exact cF) rfl ?_; rintro _ ⟨fb, rfl, hfb⟩; cases fb) | refine tr_append rfl rfl (by rw [lM]) (.inr (.inr ⟨_, _, _, _, rfl, rfl, rfl⟩)) (by simp only [List.length_cons, List.length_nil]; omega) rfl ?_ | fail)
  ·exact again (m' := l.length - (s + 1)) (by omega) (w_canon 60 [] [1, 3, 4, 5] hp rfl rfl rfl rfl) ⟨o, s + 1, hsn, rfl, by omega, hoe, by rw [hw1], rfl⟩
  ·exact again (m' := l.length - (s + 1)) (by omega) (w_canon 60 [] [1, 3, 4, 5] hp rfl rfl rfl rfl) ⟨o ++ [((t : Int), a2, a3)], s + 1, hsn, rfl, by rw [@lA _ o, List.length_singleton]; omega, (fun c hc => by
    rcases List.mem_append.1 hc with h | h
    ·exact hoe c h
    ·rw [List.mem_singleton.1 h]; exact ⟨t, ins, rfl, ht, hfb.1 rfl⟩), by rw [hw1, @lA _ o]; rfl, by rw [List.map_append]; rfl⟩
 ·repeat' (first | refine goR rfl ?_ | refine goS rfl ?_ | refine tret1 rfl ?_ | refine tretN rfl ?_ | refine gY rfl rfl ?_ | refine gN rfl rfl ?_ | refine qT rfl rfl ?_ | refine qF rfl rfl ?_ | refine qF rfl (dF (by omega)) ?_ | fail)
  exact ⟨rwP o, ⟨o, rfl, by omega, hoe⟩, .s _ 3 _ true _ 169 rfl (by rw [lM])⟩
end
end Go.Proofs.YtnphhelbianjpaaGreatDoor
namespace Go.Proofs.YtnphhelbianjpaaGreatDoor
set_option maxRecDepth 20000
open Go Go.Proofs.YtnphhelbianjpaaGreatDoor.V Go.Proofs
def nP : Nat → List Int → Nat
 | 0, _ => 0
 | n + 1, pts => nP n pts + if (n : Int) ∈ pts then 0 else 1
theorem nP_nil (n : Nat) : nP n [] = n := by
 induction n with
 | zero => rfl
 | succ n ih => unfold nP; rw [ih, if_neg (by simp)]
theorem nP_put {pts q : List Int} {j : Nat} (hj : (j : Int) ∉ pts) (hq : ∀ a, a ∈ q ↔ (a = (j : Int) ∨ a ∈ pts)) : ∀ n : Nat, nP n q + (if j < n then 1 else 0) = nP n pts
 | 0 => rfl
 | n + 1 => by
  have ih := nP_put hj hq n
  unfold nP
  by_cases e : n = j
  ·subst e
   rw [if_pos ((hq _).2 (.inl rfl)), if_neg hj, if_pos (Nat.lt_succ_self _)]
   rw [if_neg (Nat.lt_irrefl _)] at ih
   omega
  ·have hne : ((n : Int) ∈ q) ↔ ((n : Int) ∈ pts) := by
    rw [hq]
    exact ⟨fun h => h.elim (fun h => absurd (Int.ofNat.inj h) e) id, .inr⟩
   by_cases h : (n : Int) ∈ pts
   ·rw [if_pos h, if_pos (hne.2 h)]
    by_cases h2 : j < n
    ·rw [if_pos h2] at ih; rw [if_pos (by omega)]; omega
    ·rw [if_neg h2] at ih; rw [if_neg (by omega)]; omega
   ·rw [if_neg h, if_neg (fun h3 => h (hne.1 h3))]
    by_cases h2 : j < n
    ·rw [if_pos h2] at ih; rw [if_pos (by omega)]; omega
    ·rw [if_neg h2] at ih; rw [if_neg (by omega)]; omega
theorem frP.congr {ins : List Ins} {p q : List Int} (h : ∀ a, a ∈ p ↔ a ∈ q) {s l : Int} (hf : frP ins p s l) : frP ins q s l := ⟨hf.1, hf.2.1, hf.2.2.congr h⟩
def QI (r : TV) : Prop := ∃ l : List Int, r = rwI l ∧ l.length ≤ 1000000
section
attribute [local irreducible] TwS TwR thenT inBlockT retT
set_option maxHeartbeats 20000000 in
theorem after_x (p : Prg) (hO : okL p) (t : Nat) : PureX prog Tabs 59 [.agg (cPrg p), tI t] QI := by
 have cP := open_x p hO
 refine PureX.at mixedOk F59 rfl fun C hP hG hp => goF ?_; simp only [F59, targEnv, Nat.zero_add, Nat.reduceAdd]
 repeat' (first | refine goR rfl ?_ | refine goS rfl ?_ | refine tret1 rfl ?_ | refine tretN rfl ?_ | refine gY rfl rfl ?_ | refine gN rfl rfl ?_ | refine qT rfl rfl ?_ | refine qF rfl rfl ?_ | (refine tr_callX rfl (by rw [hP, hG]; exact cP) rfl ?_; rintro _ ⟨l0, rfl, hl0, -⟩) | (refine tr_callX rfl (by rw [hP, hG]; exact of_x l0 hl0 (t : Int)) rfl ?_; rintro _ ⟨l, rfl, hl, -⟩) | fail)
 have hml : (l.map cP3).length = l.length := lM ..
 refine loopS (fun m env σ => ∃ (o : List Int) (k : Nat), k ≤ l.length ∧ m = l.length - k ∧ o.length ≤ k ∧ env = [(5, rwI o), (6, rwP l), (7, tI k)] ∧ σ = ⟨[], 60⟩) l.length ((w_nilE 5 1 rfl).trans (w_canon 60 [] [5, 6, 7] hp rfl rfl rfl rfl)) ⟨[], 0, Nat.zero_le _, rfl, Nat.le_refl _, rfl, rfl⟩ ?_
 rintro m1 env σ ⟨o, k, hk, rfl, ho, rfl, rfl⟩
 have hw1 : IntKind.i64.wrap ((k : Int) + 1) = ((k + 1 : Nat) : Int) := by rw [w64 (by omega)]; rfl
 by_cases hkn : k < l.length
 ·have hx : l[k]? = some l[k] := List.getElem?_eq_getElem hkn
  generalize l[k] = x at hx
  repeat' (first | refine goR rfl ?_ | refine goS rfl ?_ | refine tret1 rfl ?_ | refine tretN rfl ?_ | refine gY rfl rfl ?_ | refine gN rfl rfl ?_ | refine qT rfl rfl ?_ | refine qF rfl rfl ?_ | refine qT rfl (dT (by omega)) ?_ | refine lT (tl_ixm rfl rfl rfl hx) ?_ | (refine tr_callX rfl (by rw [hP, hG]; exact put_x o (by omega) _) rfl ?_; rintro _ ⟨q, rfl, hq, -⟩) | fail)
  exact again (m' := l.length - (k + 1)) (by omega) (w_canon 60 [] [5, 6, 7] hp rfl rfl rfl rfl) ⟨q, k + 1, hkn, rfl, by omega, by rw [hw1], rfl⟩
 ·repeat' (first | refine goR rfl ?_ | refine goS rfl ?_ | refine tret1 rfl ?_ | refine tretN rfl ?_ | refine gY rfl rfl ?_ | refine gN rfl rfl ?_ | refine qT rfl rfl ?_ | refine qF rfl rfl ?_ | refine qF rfl (dF (by omega)) ?_ | fail)
  exact ⟨rwI o, ⟨o, rfl, by omega⟩, .fr rfl⟩
set_option maxHeartbeats 20000000 in
theorem ahead_x (p : Prg) (hO : okL p) (t : Nat) : PureX prog Tabs 60 [.agg (cPrg p), tI t] QI := by
 have cP := open_x p hO
 refine PureX.at mixedOk F60 rfl fun C hP hG hp => goF ?_; simp only [F60, targEnv, Nat.zero_add, Nat.reduceAdd]
 repeat' (first | refine goR rfl ?_ | refine goS rfl ?_ | refine tret1 rfl ?_ | refine tretN rfl ?_ | refine gY rfl rfl ?_ | refine gN rfl rfl ?_ | refine qT rfl rfl ?_ | refine qF rfl rfl ?_ | (refine tr_callX rfl (by rw [hP, hG]; exact cP) rfl ?_; rintro _ ⟨l0, rfl, hl0, -⟩) | (refine tr_callX rfl (by rw [hP, hG]; exact of_x l0 hl0 (t : Int)) rfl ?_; rintro _ ⟨l, rfl, hl, -⟩) | fail)
 have hml : (l.map cP3).length = l.length := lM ..
 refine loopS (fun m env σ => ∃ (o : List Int) (k : Nat), k ≤ l.length ∧ m = l.length - k ∧ o.length ≤ k ∧ env = [(5, rwI o), (6, rwP l), (7, tI k)] ∧ σ = ⟨[], 60⟩) l.length ((w_nilE 5 1 rfl).trans (w_canon 60 [] [5, 6, 7] hp rfl rfl rfl rfl)) ⟨[], 0, Nat.zero_le _, rfl, Nat.le_refl _, rfl, rfl⟩ ?_
 rintro m1 env σ ⟨o, k, hk, rfl, ho, rfl, rfl⟩
 have hw1 : IntKind.i64.wrap ((k : Int) + 1) = ((k + 1 : Nat) : Int) := by rw [w64 (by omega)]; rfl
 by_cases hkn : k < l.length
 ·have hx : l[k]? = some l[k] := List.getElem?_eq_getElem hkn
  generalize l[k] = x at hx
  repeat' (first | refine goR rfl ?_ | refine goS rfl ?_ | refine tret1 rfl ?_ | refine tretN rfl ?_ | refine gY rfl rfl ?_ | refine gN rfl rfl ?_ | refine qT rfl rfl ?_ | refine qF rfl rfl ?_ | refine qT rfl (dT (by omega)) ?_ | refine lT (tl_ixm rfl rfl rfl hx) ?_ | (refine tr_callX rfl (by rw [hP, hG]; exact put_x o (by omega) _) rfl ?_; rintro _ ⟨q, rfl, hq, -⟩) | fail)
  exact again (m' := l.length - (k + 1)) (by omega) (w_canon 60 [] [5, 6, 7] hp rfl rfl rfl rfl) ⟨q, k + 1, hkn, rfl, by omega, by rw [hw1], rfl⟩
 ·repeat' (first | refine goR rfl ?_ | refine goS rfl ?_ | refine tret1 rfl ?_ | refine tretN rfl ?_ | refine gY rfl rfl ?_ | refine gN rfl rfl ?_ | refine qT rfl rfl ?_ | refine qF rfl rfl ?_ | refine qF rfl (dF (by omega)) ?_ | fail)
  exact ⟨rwI o, ⟨o, rfl, by omega⟩, .fr rfl⟩
set_option maxHeartbeats 20000000 in
theorem greedy_x (p : Prg) (hO : okL p) (t : Nat) (ht : t < p.threads.length) : PureX prog Tabs 58 [.agg (cPrg p), tI t] QI := by
 have cP := open_x p hO
 obtain ⟨ho, hc, h64, hN⟩ := hO
 have cN := none_spec p ho hc t ht
 have ho3 := ho.2.2.2
 clear ho hc
 have hx : p.threads[t]? = some p.threads[t] := List.getElem?_eq_getElem ht
 have hxm : p.threads[t] ∈ p.threads := List.getElem_mem ht
 generalize p.threads[t] = ins at hx hxm
 have hik := ho3 ins hxm
 have hin := hN ins hxm
 clear ho3 hN
 have hil : (ins.map cIns).length = ins.length := lM ..
 refine PureX.at mixedOk F58 rfl fun C hP hG hp => goF ?_; simp only [F58, targEnv, Nat.zero_add, Nat.reduceAdd]
 repeat' (first | refine goR rfl ?_ | refine goS rfl ?_ | refine tret1 rfl ?_ | refine tretN rfl ?_ | refine gY rfl rfl ?_ | refine gN rfl rfl ?_ | refine qT rfl rfl ?_ | refine qF rfl rfl ?_ | refine cA rfl (by rw [hP, hG]; exact cN) rfl ?_ | refine lT (tl_ixm rfl rfl rfl hx) ?_ | (refine tr_callX rfl (by rw [hP, hG]; exact cP) rfl ?_; rintro _ ⟨l0, rfl, hl0, hop⟩) | (refine tr_callX rfl (by rw [hP, hG]; exact of_x l0 hl0 (t : Int)) rfl ?_; rintro _ ⟨l, rfl, hl, hle⟩) | fail)
 have hfr : ∀ e ∈ l, frP ins [] e.2.1 e.2.2 := fun e he => by
  obtain ⟨h1, h2⟩ := hle e he
  obtain ⟨u, jns, h3, h4, h5⟩ := hop e h1
  obtain rfl : u = t := Int.ofNat.inj (h3.symm.trans h2)
  obtain rfl : ins = jns := by rw [hx] at h4; exact Option.some.inj h4
  exact h5
 clear hle hop
 refine loopS (fun m env σ => ∃ (pts : List Int) (l : List P3), l.length ≤ 1000000 ∧ pts.length + m ≤ ins.length ∧ m = nP ins.length pts ∧ (∀ e ∈ l, frP ins pts e.2.1 e.2.2) ∧ env = [(5, rwI pts), (6, .p 0 0), (7, rwP l)] ∧ σ = ⟨[(0, .cells (cTh ins) 69)], 60⟩) ins.length ((w_nilE 5 1 rfl).trans (w_canon 60 [] [5, 6, 7] hp rfl rfl rfl rfl)) ⟨[], l, Nat.le_trans hl hl0, by simp, (nP_nil _).symm, hfr, rfl, rfl⟩ ?_
 clear hfr hl hl0
 rintro m1 env σ ⟨pts, l, hl, hpm, hm, hfr, rfl, rfl⟩
 have hml : (l.map cP3).length = l.length := lM ..
 by_cases h0 : l.length = 0
 ·repeat' (first | refine goR rfl ?_ | refine goS rfl ?_ | refine tret1 rfl ?_ | refine tretN rfl ?_ | refine gY rfl rfl ?_ | refine gN rfl rfl ?_ | refine qT rfl rfl ?_ | refine qF rfl rfl ?_ | refine qF rfl (dF (by omega)) ?_ | fail)
  exact ⟨rwI pts, ⟨pts, rfl, by omega⟩, .fr rfl⟩
 ·repeat' (first | refine goR rfl ?_ | refine goS rfl ?_ | refine tret1 rfl ?_ | refine tretN rfl ?_ | refine gY rfl rfl ?_ | refine gN rfl rfl ?_ | refine qT rfl rfl ?_ | refine qF rfl rfl ?_ | refine qT rfl (dT (by omega)) ?_ | fail)
  refine loopS (fun m env σ => ∃ (i best least : Nat), i ≤ ins.length ∧ m = ins.length - i ∧ least ≤ l.length ∧ ((least = l.length ∧ best = 0 ∧ ∀ i' : Nat, i' < i → ∀ q : List Int, (∀ a, a ∈ q ↔ (a = (i' : Int) ∨ a ∈ pts)) → ∀ e ∈ l, frP ins q e.2.1 e.2.2) ∨ (best < ins.length ∧ (best : Int) ∉ pts)) ∧ env = [(5, rwI pts), (6, .p 0 0), (7, rwP l), (8, tI best), (9, tI least), (10, tI i)] ∧ σ = ⟨[(0, .cells (cTh ins) 69)], 60⟩) ins.length (w_canon 60 [] [5, 6, 7, 8, 9, 10] hp rfl rfl rfl rfl) ⟨0, 0, l.length, Nat.zero_le _, rfl, Nat.le_refl _, .inl ⟨rfl, rfl, fun i' h => absurd h (Nat.not_lt_zero _)⟩, by rw [hml]; rfl, rfl⟩ ?_
  rintro m2 env σ ⟨i, best, least, hi, rfl, hll, hor, rfl, rfl⟩
  have hw1 : IntKind.i64.wrap ((i : Int) + 1) = ((i + 1 : Nat) : Int) := by rw [w64 (by omega)]; rfl
  have cU := fun q hq => uncut_x ins hik (Nat.le_trans hin (by decide)) l hl q hq
  by_cases hii : i < ins.length
  ·repeat' (first | refine goR rfl ?_ | refine goS rfl ?_ | refine tret1 rfl ?_ | refine tretN rfl ?_ | refine gY rfl rfl ?_ | refine gN rfl rfl ?_ | refine qT rfl rfl ?_ | refine qF rfl rfl ?_ | refine qT rfl (dT (by omega)) ?_ | (refine tr_callX rfl (by rw [hP, hG]; exact put_x pts (by omega) (i : Int)) rfl ?_; rintro _ ⟨q, rfl, hql, hq⟩) | (refine tr_callX rfl (by rw [hP, hG]; exact cU q (by omega)) rfl ?_; rintro _ ⟨l', rfl, hl', -, hcut⟩) | fail)
   have hml' : (l'.map cP3).length = l'.length := lM ..
   by_cases hlt : l'.length < least
   ·have hnot : (i : Int) ∉ pts := fun hmem => by
     obtain ⟨e, he, hf⟩ := hcut.1 (by omega)
     exact hf ((hfr e he).congr fun a => by rw [hq]; exact ⟨.inr, fun h => h.elim (fun h => h ▸ hmem) id⟩)
    clear hfr hcut hor
    repeat' (first | refine goR rfl ?_ | refine goS rfl ?_ | refine tret1 rfl ?_ | refine tretN rfl ?_ | refine gY rfl rfl ?_ | refine gN rfl rfl ?_ | refine qT rfl rfl ?_ | refine qF rfl rfl ?_ | refine qT rfl (dT (by omega)) ?_ | fail)
    exact again (m' := ins.length - (i + 1)) (by omega) (w_canon 60 [] [5, 6, 7, 8, 9, 10] hp rfl rfl rfl rfl) ⟨i + 1, i, l'.length, hii, rfl, by omega, .inr ⟨hii, hnot⟩, by rw [hw1, hml'], rfl⟩
   ·have hor2 : ((least = l.length ∧ best = 0 ∧ ∀ i' : Nat, i' < i + 1 → ∀ q : List Int, (∀ a, a ∈ q ↔ (a = (i' : Int) ∨ a ∈ pts)) → ∀ e ∈ l, frP ins q e.2.1 e.2.2) ∨ (best < ins.length ∧ (best : Int) ∉ pts)) := by
     refine hor.imp (fun ⟨h1, h2, h3⟩ => ⟨h1, h2, fun i' hi' q2 hq2 e he => ?_⟩) id
     by_cases hei : i' = i
     ·subst hei
      refine Classical.byContradiction fun hf => ?_
      have : l'.length < l.length := hcut.2 ⟨e, he, fun hf2 => hf (hf2.congr fun a => by rw [hq, hq2])⟩
      omega
     ·exact h3 i' (by omega) q2 hq2 e he
    clear hor hcut hfr
    repeat' (first | refine goR rfl ?_ | refine goS rfl ?_ | refine tret1 rfl ?_ | refine tretN rfl ?_ | refine gY rfl rfl ?_ | refine gN rfl rfl ?_ | refine qT rfl rfl ?_ | refine qF rfl rfl ?_ | refine qF rfl (dF (by omega)) ?_ | fail)
    exact again (m' := ins.length - (i + 1)) (by omega) (w_canon 60 [] [5, 6, 7, 8, 9, 10] hp rfl rfl rfl rfl) ⟨i + 1, best, least, hii, rfl, hll, hor2, by rw [hw1], rfl⟩
  ·have hbest : best < ins.length ∧ (best : Int) ∉ pts := by
    rcases hor with ⟨_, _, h3⟩ | h
    ·exfalso
     obtain ⟨e, he⟩ : ∃ e, e ∈ l := by
      cases l with
      | nil => exact absurd rfl h0
      | cons e l => exact ⟨e, List.mem_cons_self⟩
     have hf := hfr e he
     obtain ⟨g1, g2, g3⟩ := hf
     obtain ⟨d, hd⟩ : ∃ d : Nat, e.2.2 = d := ⟨e.2.2.toNat, by omega⟩
     have h4 := (h3 d (by omega) ((d : Int) :: pts) (fun a => List.mem_cons) e he).2.2
     rw [hd, Int.toNat_natCast] at h4
     exact h4.not List.mem_cons_self
    ·exact h
   obtain ⟨hb1, hb2⟩ := hbest
   clear hor hfr
   repeat' (first | refine goR rfl ?_ | refine goS rfl ?_ | refine tret1 rfl ?_ | refine tretN rfl ?_ | refine gY rfl rfl ?_ | refine gN rfl rfl ?_ | refine qT rfl rfl ?_ | refine qF rfl rfl ?_ | refine qF rfl (dF (by omega)) ?_ | (refine tr_callX rfl (by rw [hP, hG]; exact put_x pts (by omega) (best : Int)) rfl ?_; rintro _ ⟨q, rfl, hql, hq⟩) | (refine tr_callX rfl (by rw [hP, hG]; exact cU q (by omega)) rfl ?_; rintro _ ⟨l', rfl, hl', hfr2, -⟩) | fail)
   have hmm := nP_put hb2 hq ins.length
   rw [if_pos hb1] at hmm
   exact again (m' := nP ins.length q) (by omega) (w_canon 60 [] [5, 6, 7] hp rfl rfl rfl rfl) ⟨q, l', by omega, by omega, rfl, fun e he => (hfr2 e he).2, rfl, rfl⟩
set_option maxHeartbeats 20000000 in
theorem prune_x (p : Prg) (hO : okL p) (t : Nat) (ht : t < p.threads.length) (pts : List Int) (hpl : pts.length ≤ 1000000) : PureX prog Tabs 57 [.agg (cPrg p), tI t, rwI pts] QI := by
 have cD := delays_x p hO
 obtain ⟨ho, hc, h64, hN⟩ := hO
 have cN := none_spec p ho hc t ht
 have ho3 := ho.2.2.2
 clear ho hc
 have hx : p.threads[t]? = some p.threads[t] := List.getElem?_eq_getElem ht
 have hxm : p.threads[t] ∈ p.threads := List.getElem_mem ht
 generalize p.threads[t] = ins at hx hxm
 have hik := ho3 ins hxm
 have hin := hN ins hxm
 clear ho3 hN
 have hil : (ins.map cIns).length = ins.length := lM ..
 have hpm : (pts.map fun n => [tI n]).length = pts.length := lM ..
 refine PureX.at mixedOk F57 rfl fun C hP hG hp => goF ?_; simp only [F57, targEnv, Nat.zero_add, Nat.reduceAdd]
 repeat' (first | refine goR rfl ?_ | refine goS rfl ?_ | refine tret1 rfl ?_ | refine tretN rfl ?_ | refine gY rfl rfl ?_ | refine gN rfl rfl ?_ | refine qT rfl rfl ?_ | refine qF rfl rfl ?_ | refine cA rfl (by rw [hP, hG]; exact cN) rfl ?_ | fail)
 refine loopS (fun m env σ => ∃ (o : List Int) (k : Nat), k ≤ pts.length ∧ m = pts.length - k ∧ o.length ≤ k ∧ env = [(1, tI t), (2, rwI pts), (3, .p 0 0), (7, rwI o), (8, tI k)] ∧ σ = ⟨[(0, .cells (cPrg p) 28)], 60⟩) pts.length ((w_nilE 7 1 rfl).trans (w_canon 60 [] [1, 2, 3, 7, 8] hp rfl rfl rfl rfl)) ⟨[], 0, Nat.zero_le _, rfl, Nat.le_refl _, rfl, rfl⟩ ?_
 rintro m1 env σ ⟨o, k, hk, rfl, hol, rfl, rfl⟩
 have hw1 : IntKind.i64.wrap ((k : Int) + 1) = ((k + 1 : Nat) : Int) := by rw [w64 (by omega)]; rfl
 by_cases hkn : k < pts.length
 ·have hv : pts[k]? = some pts[k] := List.getElem?_eq_getElem hkn
  generalize pts[k] = v at hv
  by_cases hv0 : v ≥ 0
  ·by_cases hv1 : v < (ins.length : Int)
   ·repeat' (first | refine goR rfl ?_ | refine goS rfl ?_ | refine tret1 rfl ?_ | refine tretN rfl ?_ | refine gY rfl rfl ?_ | refine gN rfl rfl ?_ | refine qT rfl rfl ?_ | refine qF rfl rfl ?_ | refine qT rfl (dT (by omega)) ?_ | refine tg_t rfl (dT hv0) ?_ | refine lT (tl_ixm rfl rfl rfl hx) ?_ | refine lT (tl_ixm rfl rfl rfl hv) ?_ | (refine tr_callX rfl (by rw [hP, hG]; exact put_x o (by omega) _) rfl ?_; rintro _ ⟨q, rfl, hq, -⟩) | fail)
    exact again (m' := pts.length - (k + 1)) (by omega) (w_canon 60 [] [1, 2, 3, 7, 8] hp rfl rfl rfl rfl) ⟨q, k + 1, hkn, rfl, by omega, by rw [hw1], rfl⟩
   ·repeat' (first | refine goR rfl ?_ | refine goS rfl ?_ | refine tret1 rfl ?_ | refine tretN rfl ?_ | refine gY rfl rfl ?_ | refine gN rfl rfl ?_ | refine qT rfl rfl ?_ | refine qF rfl rfl ?_ | refine qT rfl (dT (by omega)) ?_ | refine qF rfl (dF (by omega)) ?_ | refine tg_t rfl (dT hv0) ?_ | refine lT (tl_ixm rfl rfl rfl hx) ?_ | refine lT (tl_ixm rfl rfl rfl hv) ?_ | fail)
    exact again (m' := pts.length - (k + 1)) (by omega) (w_canon 60 [] [1, 2, 3, 7, 8] hp rfl rfl rfl rfl) ⟨o, k + 1, hkn, rfl, by omega, by rw [hw1], rfl⟩
  ·repeat' (first | refine goR rfl ?_ | refine goS rfl ?_ | refine tret1 rfl ?_ | refine tretN rfl ?_ | refine gY rfl rfl ?_ | refine gN rfl rfl ?_ | refine qT rfl rfl ?_ | refine qF rfl rfl ?_ | refine qT rfl (dT (by omega)) ?_ | refine tg_f rfl (dF hv0) ?_ | refine lT (tl_ixm rfl rfl rfl hv) ?_ | fail)
   exact again (m' := pts.length - (k + 1)) (by omega) (w_canon 60 [] [1, 2, 3, 7, 8] hp rfl rfl rfl rfl) ⟨o, k + 1, hkn, rfl, by omega, by rw [hw1], rfl⟩
 ·repeat' (first | refine goR rfl ?_ | refine goS rfl ?_ | refine tret1 rfl ?_ | refine tretN rfl ?_ | refine gY rfl rfl ?_ | refine gN rfl rfl ?_ | refine qT rfl rfl ?_ | refine qF rfl rfl ?_ | refine qF rfl (dF (by omega)) ?_ | (refine tr_callX rfl (by rw [hP, hG]; exact cD) rfl ?_; rintro _ ⟨l0, rfl, hl0, -⟩) | (refine tr_callX rfl (by rw [hP, hG]; exact of_x l0 hl0 (t : Int)) rfl ?_; rintro _ ⟨l, rfl, hl, -⟩) | fail)
  have cU := fun q hq => uncut_x ins hik (Nat.le_trans hin (by decide)) l (Nat.le_trans hl hl0) q hq
  refine loopS (fun m env σ => ∃ (o : List Int) (i : Nat), i ≤ ins.length ∧ m = ins.length - i ∧ o.length ≤ 1000000 ∧ env = [(1, tI t), (3, .p 0 0), (7, rwI o), (9, rwP l), (10, tI i)] ∧ σ = ⟨[(0, .cells (cPrg p) 28)], 60⟩) ins.length (w_canon 60 [] [1, 3, 7, 9, 10] hp rfl rfl rfl rfl) ⟨o, 0, Nat.zero_le _, rfl, by omega, rfl, rfl⟩ ?_
  clear hol hw1 hkn hk
  rintro m2 env σ ⟨o, i, hi, rfl, hol, rfl, rfl⟩
  have hw1 : IntKind.i64.wrap ((i : Int) + 1) = ((i + 1 : Nat) : Int) := by rw [w64 (by omega)]; rfl
  by_cases hii : i < ins.length
  ·have cI := in3_spec (G := Tabs) o hol (i : Int)
   by_cases hmem : (i : Int) ∈ o
   ·rw [dT hmem] at cI
    repeat' (first | refine goR rfl ?_ | refine goS rfl ?_ | refine tret1 rfl ?_ | refine tretN rfl ?_ | refine gY rfl rfl ?_ | refine gN rfl rfl ?_ | refine qT rfl rfl ?_ | refine qF rfl rfl ?_ | refine qT rfl (dT (by omega)) ?_ | refine lT (tl_ixm rfl rfl rfl hx) ?_ | refine cA rfl (by rw [hP, hG]; exact cI) rfl ?_ | (refine tr_callX rfl (by rw [hP, hG]; exact without_x o hol (i : Int)) rfl ?_; rintro _ ⟨q, rfl, hq⟩) | (refine tr_callX rfl (by rw [hP, hG]; exact cU q (by omega)) rfl ?_; rintro _ ⟨l', rfl, hl', -, -⟩) | fail)
    have hml' : (l'.map cP3).length = l'.length := lM ..
    by_cases hz : l'.length = 0
    ·repeat' (first | refine goR rfl ?_ | refine goS rfl ?_ | refine tret1 rfl ?_ | refine tretN rfl ?_ | refine gY rfl rfl ?_ | refine gN rfl rfl ?_ | refine qT rfl rfl ?_ | refine qF rfl rfl ?_ | refine qT rfl (dT (by omega)) ?_ | (refine tr_callX rfl (by rw [hP, hG]; exact without_x o hol (i : Int)) rfl ?_; rintro _ ⟨q2, rfl, hq2⟩) | fail)
     exact again (m' := ins.length - (i + 1)) (by omega) (w_canon 60 [] [1, 3, 7, 9, 10] hp rfl rfl rfl rfl) ⟨q2, i + 1, hii, rfl, by omega, by rw [hw1], rfl⟩
    ·repeat' (first | refine goR rfl ?_ | refine goS rfl ?_ | refine tret1 rfl ?_ | refine tretN rfl ?_ | refine gY rfl rfl ?_ | refine gN rfl rfl ?_ | refine qT rfl rfl ?_ | refine qF rfl rfl ?_ | refine qF rfl (dF (by omega)) ?_ | fail)
     exact again (m' := ins.length - (i + 1)) (by omega) (w_canon 60 [] [1, 3, 7, 9, 10] hp rfl rfl rfl rfl) ⟨o, i + 1, hii, rfl, hol, by rw [hw1], rfl⟩
   ·rw [dF hmem] at cI
    repeat' (first | refine goR rfl ?_ | refine goS rfl ?_ | refine tret1 rfl ?_ | refine tretN rfl ?_ | refine gY rfl rfl ?_ | refine gN rfl rfl ?_ | refine qT rfl rfl ?_ | refine qF rfl rfl ?_ | refine qT rfl (dT (by omega)) ?_ | refine lT (tl_ixm rfl rfl rfl hx) ?_ | refine cA rfl (by rw [hP, hG]; exact cI) rfl ?_ | fail)
    exact again (m' := ins.length - (i + 1)) (by omega) (w_canon 60 [] [1, 3, 7, 9, 10] hp rfl rfl rfl rfl) ⟨o, i + 1, hii, rfl, hol, by rw [hw1], rfl⟩
  ·repeat' (first | refine goR rfl ?_ | refine goS rfl ?_ | refine tret1 rfl ?_ | refine tretN rfl ?_ | refine gY rfl rfl ?_ | refine gN rfl rfl ?_ | refine qT rfl rfl ?_ | refine qF rfl rfl ?_ | refine qF rfl (dF (by omega)) ?_ | refine lT (tl_ixm rfl rfl rfl hx) ?_ | fail)
   exact ⟨rwI o, ⟨o, rfl, hol⟩, .fr rfl⟩
set_option maxHeartbeats 20000000 in
theorem points3_x (p : Prg) (hO : okL p) (t : Nat) (ht : t < p.threads.length) : PureX prog Tabs 27 [.agg (cPrg p), tI t] QI := by
 have cG := greedy_x p hO t ht
 have cR := prune_x p hO t ht
 have cF := after_x p hO t
 have cH := ahead_x p hO t
 clear hO
 refine PureX.at mixedOk F27 rfl fun C hP hG hp => goF ?_; simp only [F27, targEnv, Nat.zero_add, Nat.reduceAdd]
 repeat' (first | refine goR rfl ?_ | refine goS rfl ?_ | refine tret1 rfl ?_ | refine tretN rfl ?_ | refine gY rfl rfl ?_ | refine gN rfl rfl ?_ | refine qT rfl rfl ?_ | refine qF rfl rfl ?_ | (refine tr_callX rfl (by rw [hP, hG]; exact cG) rfl ?_; rintro _ ⟨l1, rfl, hl1⟩) | (refine tr_callX rfl (by rw [hP, hG]; exact cR l1 hl1) rfl ?_; rintro _ ⟨b, rfl, hb⟩) | fail)
 refine loopS (fun m env σ => ∃ (b : List Int) (i : Nat), i ≤ 2 ∧ m = 2 - i ∧ b.length ≤ 1000000 ∧ env = [(1, tI t), (2, .p 0 0), (5, rwI b), (6, tI i)] ∧ σ = ⟨[(0, .cells (cPrg p) 28)], 60⟩) 2 (w_canon 60 [] [1, 2, 5, 6] hp rfl rfl rfl rfl) ⟨b, 0, Nat.zero_le _, rfl, hb, rfl, rfl⟩ ?_
 clear hb hl1
 rintro m1 env σ ⟨b, i, hi, rfl, hb, rfl, rfl⟩
 have hw1 : IntKind.i64.wrap ((i : Int) + 1) = ((i + 1 : Nat) : Int) := by rw [w64 (by omega)]; rfl
 have hmb : (b.map fun n => [tI n]).length = b.length := lM ..
 by_cases hi2 : i < 2
 ·by_cases hi1 : i = 1
  ·repeat' (first | refine goR rfl ?_ | refine goS rfl ?_ | refine tret1 rfl ?_ | refine tretN rfl ?_ | refine gY rfl rfl ?_ | refine gN rfl rfl ?_ | refine qT rfl rfl ?_ | refine qF rfl rfl ?_ | refine qT rfl (dT (by omega)) ?_ | (refine tr_callX rfl (by rw [hP, hG]; exact cF) rfl ?_; rintro _ ⟨l0, rfl, hl0⟩) | (refine tr_callX rfl (by rw [hP, hG]; exact cH) rfl ?_; rintro _ ⟨l2, rfl, hl2⟩) | (refine tr_callX rfl (by rw [hP, hG]; exact cR l2 hl2) rfl ?_; rintro _ ⟨l3, rfl, hl3⟩; have hm3 : (l3.map fun n => [tI n]).length = l3.length := lM ..; by_cases hlt : l3.length < b.length) | refine qF rfl (dF (by omega)) ?_ | fail)
   ·exact again (m' := 2 - (i + 1)) (by omega) (w_canon 60 [] [1, 2, 5, 6] hp rfl rfl rfl rfl) ⟨l3, i + 1, hi2, rfl, hl3, by rw [hw1], rfl⟩
   ·exact again (m' := 2 - (i + 1)) (by omega) (w_canon 60 [] [1, 2, 5, 6] hp rfl rfl rfl rfl) ⟨b, i + 1, hi2, rfl, hb, by rw [hw1], rfl⟩
  ·repeat' (first | refine goR rfl ?_ | refine goS rfl ?_ | refine tret1 rfl ?_ | refine tretN rfl ?_ | refine gY rfl rfl ?_ | refine gN rfl rfl ?_ | refine qT rfl rfl ?_ | refine qF rfl rfl ?_ | refine qT rfl (dT (by omega)) ?_ | (refine tr_callX rfl (by rw [hP, hG]; exact cF) rfl ?_; rintro _ ⟨l2, rfl, hl2⟩) | (refine tr_callX rfl (by rw [hP, hG]; exact cR l2 hl2) rfl ?_; rintro _ ⟨l3, rfl, hl3⟩; have hm3 : (l3.map fun n => [tI n]).length = l3.length := lM ..; by_cases hlt : l3.length < b.length) | refine qF rfl (dF (by omega)) ?_ | fail)
   ·exact again (m' := 2 - (i + 1)) (by omega) (w_canon 60 [] [1, 2, 5, 6] hp rfl rfl rfl rfl) ⟨l3, i + 1, hi2, rfl, hl3, by rw [hw1], rfl⟩
   ·exact again (m' := 2 - (i + 1)) (by omega) (w_canon 60 [] [1, 2, 5, 6] hp rfl rfl rfl rfl) ⟨b, i + 1, hi2, rfl, hb, by rw [hw1], rfl⟩
 ·repeat' (first | refine goR rfl ?_ | refine goS rfl ?_ | refine tret1 rfl ?_ | refine tretN rfl ?_ | refine gY rfl rfl ?_ | refine gN rfl rfl ?_ | refine qT rfl rfl ?_ | refine qF rfl rfl ?_ | refine qF rfl (dF (by omega)) ?_ | fail)
  exact ⟨rwI b, ⟨b, rfl, hb⟩, .fr rfl⟩
set_option maxHeartbeats 20000000 in
theorem all_x (p : Prg) (hO : okL p) : PureX prog Tabs 9 [.agg (cPrg p)] (fun r => ∃ l : List (List Int), r = ptR l ∧ l.length ≤ p.threads.length ∧ ∀ x ∈ l, x.length ≤ 1000000) := by
 have cP := points3_x p hO
 obtain ⟨ho, hc, h64, -⟩ := hO
 have c1 := check_spec2 p ho
 rw [hc] at c1
 clear ho hc
 have hmt : (p.threads.map cTh).length = p.threads.length := lM ..
 refine PureX.at mixedOk F9 rfl fun C hP hG hp => goF ?_; simp only [F9, targEnv, Nat.zero_add, Nat.reduceAdd]
 repeat' (first | refine goR rfl ?_ | refine goS rfl ?_ | refine tret1 rfl ?_ | refine tretN rfl ?_ | refine gY rfl rfl ?_ | refine gN rfl rfl ?_ | refine qT rfl rfl ?_ | refine qF rfl rfl ?_ | refine cA rfl (by rw [hP, hG]; exact c1) rfl ?_ | fail)
 refine loopS (fun m env σ => ∃ (o : List (List Int)), o.length ≤ p.threads.length ∧ m = p.threads.length - o.length ∧ (∀ x ∈ o, x.length ≤ 1000000) ∧ env = [(1, .p 0 0), (3, .s 1 1 0 o.length true), (4, tI o.length)] ∧ σ = ⟨[(0, .cells (cPrg p) 28), (1, .rows 1 (o.map fun l => [rwI l]) 24)], 60⟩) p.threads.length ((w_virt (d := 3) 1 24 rfl).trans (w_canon 60 [] [1, 3, 4] hp rfl rfl rfl rfl)) ⟨[], Nat.zero_le _, rfl, (fun x h => by cases h), rfl, rfl⟩ ?_
 rintro m1 env σ ⟨o, hol, rfl, hox, rfl, rfl⟩
 have hw1 : IntKind.i64.wrap ((o.length : Int) + 1) = ((o.length + 1 : Nat) : Int) := by rw [w64 (by omega)]; rfl
 by_cases hon : o.length < p.threads.length
 ·repeat' (first | refine goR rfl ?_ | refine goS rfl ?_ | refine tret1 rfl ?_ | refine tretN rfl ?_ | refine gY rfl rfl ?_ | refine gN rfl rfl ?_ | refine qT rfl rfl ?_ | refine qF rfl rfl ?_ | refine qT rfl (dT (by omega)) ?_ | (refine tr_callX rfl (by rw [hP, hG]; exact cP o.length hon) rfl ?_; rintro _ ⟨x, rfl, hx⟩) | refine tr_append rfl rfl (by rw [lM]) (.inr (.inr ⟨_, _, _, _, rfl, rfl, rfl⟩)) (by simp only [List.length_cons, List.length_nil]; omega) rfl ?_ | fail)
  exact again (m' := p.threads.length - (o ++ [x]).length) (by rw [lA, List.length_singleton]; omega) (w_canon 60 [] [1, 3, 4] hp rfl rfl rfl rfl) ⟨o ++ [x], by rw [lA, List.length_singleton]; omega, rfl, (fun c hc => by
   rcases List.mem_append.1 hc with h | h
   ·exact hox c h
   ·rw [List.mem_singleton.1 h]; exact hx), by rw [hw1, @lA _ o]; rfl, by rw [List.map_append]; rfl⟩
 ·repeat' (first | refine goR rfl ?_ | refine goS rfl ?_ | refine tret1 rfl ?_ | refine tretN rfl ?_ | refine gY rfl rfl ?_ | refine gN rfl rfl ?_ | refine qT rfl rfl ?_ | refine qF rfl rfl ?_ | refine qF rfl (dF (by omega)) ?_ | fail)
  exact ⟨ptR o, ⟨o, rfl, hol, hox⟩, .s _ 1 _ true _ 24 rfl (by rw [lM])⟩
end
end Go.Proofs.YtnphhelbianjpaaGreatDoor
