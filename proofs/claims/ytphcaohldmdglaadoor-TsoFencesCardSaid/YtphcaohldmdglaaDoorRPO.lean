/-
  Walks of functions of the program, and what the laws need of them.
-/
import Derived.Test.YtphcaohldmdglaaDoorRPG
import Derived.Test.YtphcaohldmdglaaDoorRPH
import Derived.Test.YtphcaohldmdglaaDoorRPK
import Derived.Test.YtphcaohldmdglaaDoorRPI
set_option linter.all false
set_option linter.unusedSimpArgs false
set_option linter.unusedVariables false
set_option linter.unnecessarySimpa false
namespace Go.Proofs.YtphcaohldmdglaaDoor
set_option maxRecDepth 20000
open Go Go.Proofs.YtphcaohldmdglaaDoor.V Go.Proofs
theorem i64s_ty {d : Nat} {x : TV} (h : TyV prog (d + 2) x ty_sl_int64) : ∃ l : List Int, x = rwI l ∧ ∀ v ∈ l, inR v := by
 obtain ⟨xs, e, k⟩ := tl_sli un_i64s ce_i64 (tv_sli un_i64s h)
 cases e
 obtain ⟨l, rfl, hl⟩ := map_of (c := fun s => [tI s]) (Q := inR) fun x hx => let ⟨s, e, a, b⟩ := tl_int un_int64 (k x hx); ⟨s, e, a, b⟩
 exact ⟨l, rfl, hl⟩
end Go.Proofs.YtphcaohldmdglaaDoor
namespace Go.Proofs.YtphcaohldmdglaaDoor
set_option maxRecDepth 20000
open Go Go.Proofs.YtphcaohldmdglaaDoor.V Go.Proofs
def movI (v : Int) : Ins := mkI 1 false 0 ⟨3, 0, 0, 0⟩ ⟨2, 0, 0, v⟩ (bs [])
def ldI : Ins := mkI 1 false 0 ⟨1, 1, 0, 0⟩ ⟨3, 0, 0, 0⟩ (bs [])
def pOwn (vs : List Int) : Prg := ⟨[⟨bs [120], 1, [-7]⟩], [vs.map movI ++ [ldI, hltI], [ldI, hltI]]⟩
theorem rows10 {α : Type} {l : List α} (h : l.length ≤ 10) : l = [] ∨ (∃ a, l = [a]) ∨ (∃ a b, l = [a, b]) ∨ (∃ a b c, l = [a, b, c]) ∨ (∃ a b c d, l = [a, b, c, d]) ∨ (∃ a b c d e, l = [a, b, c, d, e]) ∨ (∃ a b c d e f, l = [a, b, c, d, e, f]) ∨ (∃ a b c d e f g, l = [a, b, c, d, e, f, g]) ∨ (∃ a b c d e f g i, l = [a, b, c, d, e, f, g, i]) ∨ (∃ a b c d e f g i j, l = [a, b, c, d, e, f, g, i, j]) ∨ ∃ a b c d e f g i j k, l = [a, b, c, d, e, f, g, i, j, k] := by
 match l, h with
 | [], _ => exact .inl rfl
 | [a], _ => exact .inr (.inl ⟨_, rfl⟩)
 | [a, b], _ => exact .inr (.inr (.inl ⟨_, _, rfl⟩))
 | [a, b, c], _ => exact .inr (.inr (.inr (.inl ⟨_, _, _, rfl⟩)))
 | [a, b, c, d], _ => exact .inr (.inr (.inr (.inr (.inl ⟨_, _, _, _, rfl⟩))))
 | [a, b, c, d, e], _ => exact .inr (.inr (.inr (.inr (.inr (.inl ⟨_, _, _, _, _, rfl⟩)))))
 | [a, b, c, d, e, f], _ => exact .inr (.inr (.inr (.inr (.inr (.inr (.inl ⟨_, _, _, _, _, _, rfl⟩))))))
 | [a, b, c, d, e, f, g], _ => exact .inr (.inr (.inr (.inr (.inr (.inr (.inr (.inl ⟨_, _, _, _, _, _, _, rfl⟩)))))))
 | [a, b, c, d, e, f, g, i], _ => exact .inr (.inr (.inr (.inr (.inr (.inr (.inr (.inr (.inl ⟨_, _, _, _, _, _, _, _, rfl⟩))))))))
 | [a, b, c, d, e, f, g, i, j], _ => exact .inr (.inr (.inr (.inr (.inr (.inr (.inr (.inr (.inr (.inl ⟨_, _, _, _, _, _, _, _, _, rfl⟩)))))))))
 | [a, b, c, d, e, f, g, i, j, k], _ => exact .inr (.inr (.inr (.inr (.inr (.inr (.inr (.inr (.inr (.inr ⟨_, _, _, _, _, _, _, _, _, _, rfl⟩)))))))))
theorem pOwn_ok {vs : List Int} (h : vs.length ≤ 10) : checkC (pOwn vs) = 0 := by
 rcases rows10 h with rfl | ⟨_, rfl⟩ | ⟨_, _, rfl⟩ | ⟨_, _, _, rfl⟩ | ⟨_, _, _, _, rfl⟩ | ⟨_, _, _, _, _, rfl⟩ | ⟨_, _, _, _, _, _, rfl⟩ | ⟨_, _, _, _, _, _, _, rfl⟩ | ⟨_, _, _, _, _, _, _, _, rfl⟩ | ⟨_, _, _, _, _, _, _, _, _, rfl⟩ | ⟨_, _, _, _, _, _, _, _, _, _, rfl⟩
 all_goals kernel_rfl
theorem pOwn_okP {vs : List Int} (h : vs.length ≤ 10) : okP (pOwn vs) := by
 have hi : ∀ (l : List Ins), (∀ i ∈ l, i = ldI ∨ i = hltI ∨ ∃ v, i = movI v) → ∀ i ∈ l, i.to.size ≤ 100 ∧ i.labels.length ≤ 100 ∧ ∀ s ∈ i.labels, s.size ≤ 100 := by
  intro l hl i hi
  rcases hl i hi with rfl | rfl | ⟨v, rfl⟩ <;> exact ⟨by show (bs []).size ≤ 100; decide, by show 0 ≤ 100; decide, fun l hl => by cases hl⟩
 have hm : ∀ i ∈ vs.map movI ++ [ldI, hltI], i = ldI ∨ i = hltI ∨ ∃ v, i = movI v := by
  intro i hi
  rcases List.mem_append.1 hi with hi | hi
  ·obtain ⟨v, _, rfl⟩ := List.mem_map.1 hi; exact .inr (.inr ⟨v, rfl⟩)
  ·simp only [List.mem_cons, List.not_mem_nil, or_false] at hi
   rcases hi with rfl | rfl
   ·exact .inl rfl
   ·exact .inr (.inl rfl)
 refine okP_small (by show 1 ≤ 100; decide) ?_ (by show 2 ≤ 100; decide) ?_
 ·intro s hs; simp only [pOwn, List.mem_singleton] at hs; subst hs; decide
 ·intro t ht
  simp only [pOwn, List.mem_cons, List.not_mem_nil, or_false] at ht
  rcases ht with rfl | rfl
  ·refine ⟨by rw [List.length_append, List.length_map]; show _ + 2 ≤ 100; omega, ?_, hi _ hm⟩
   have : allLabs (vs.map movI ++ [ldI, hltI]) = [] := by
    unfold allLabs
    rw [List.flatMap_eq_nil_iff]
    intro i hi'
    rcases hm i hi' with rfl | rfl | ⟨v, rfl⟩ <;> rfl
   rw [this]; decide
  ·exact ⟨by decide, by decide, hi _ (by intro i hi; simp only [List.mem_cons, List.not_mem_nil, or_false] at hi; rcases hi with rfl | rfl; exact .inl rfl; exact .inr (.inl rfl))⟩
theorem pOwn_nums {vs : List Int} (hv : ∀ v ∈ vs, inR v) : numsOk (pOwn vs) := by
 intro l hl i hi
 simp only [pOwn, List.mem_cons, List.not_mem_nil, or_false] at hl
 have h0 : inR ldI.b.n := by unfold inR; decide
 have h1 : inR hltI.b.n := by unfold inR; decide
 rcases hl with rfl | rfl
 ·rcases List.mem_append.1 hi with hi | hi
  ·obtain ⟨v, hm, rfl⟩ := List.mem_map.1 hi; exact hv v hm
  ·simp only [List.mem_cons, List.not_mem_nil, or_false] at hi
   rcases hi with rfl | rfl
   ·exact h0
   ·exact h1
 ·simp only [List.mem_cons, List.not_mem_nil, or_false] at hi
  rcases hi with rfl | rfl
  ·exact h0
  ·exact h1
def lastV (vs : List Int) (i : Nat) : Int := if i = 0 then -7 else vs.getD (i - 1) 0
def pcT (i : Nat) : Thr := { zThr with pc := i }
def sSt (vs : List Int) (i : Nat) : State := ⟨[-7], [pcT i, zThr], [(vs.take i).map (Entry.mk 0), []], 0⟩
def sFl (vs : List Int) (j : Nat) : State := ⟨[lastV vs j], [pcT vs.length, zThr], [(vs.drop j).map (Entry.mk 0), []], 0⟩
theorem own_cur {vs : List Int} {i : Nat} (h : i < vs.length) : curI (pOwn vs) ((0 : Nat) : Int) (pcT i) = some (movI vs[i]) := by
 unfold curI
 rw [if_pos ⟨rfl, Int.natCast_nonneg _⟩]
 show (vs.map movI ++ [ldI, hltI])[((i : Int)).toNat]? = _
 rw [Int.toNat_natCast, List.getElem?_append_left (by rw [List.length_map]; exact h), List.getElem?_map, List.getElem?_eq_getElem h]; rfl
theorem own_cur0 (vs : List Int) : curI (pOwn vs) ((0 : Nat) : Int) (pcT vs.length) = some ldI := by
 unfold curI
 rw [if_pos ⟨rfl, Int.natCast_nonneg _⟩]
 show (vs.map movI ++ [ldI, hltI])[((vs.length : Int)).toNat]? = _
 rw [Int.toNat_natCast, List.getElem?_append_right (by rw [List.length_map]; omega), List.length_map, Nat.sub_self]; rfl
theorem i64_s (n : Nat) (h : n ≤ 1000) : i64 ((n : Int) + 1) = ((n + 1 : Nat) : Int) := by
 have : i64 ((n : Int) + 1) = (n : Int) + 1 := w64 (by omega)
 rw [this]; rfl
theorem own_store {vs : List Int} (h10 : vs.length ≤ 10) {i : Nat} (h : i < vs.length) : (tsoW (pOwn vs) (sSt vs i) 0 false).1 = sSt vs (i + 1) := by
 have hc := own_cur h
 have hn : nextW (pOwn vs) ((0 : Nat) : Int) (pcT i) = ⟨3, 0, vs[i]⟩ := by
  unfold nextW; rw [hc]; rfl
 have hl : localW (pOwn vs) ((0 : Nat) : Int) (pcT i) = pcT (i + 1) := by
  unfold localW; rw [hc]
  show incP (pcT i) = _
  unfold incP
  rw [show (pcT i).pc + 1 = (i : Int) + 1 from rfl, i64_s i (by omega)]
  rfl
 rw [show (0 : Int) = ((0 : Nat) : Int) from rfl, tsoW_s (x := pcT i) rfl, stepB_3 (by rw [hn]), hn, hl]
 show State.mk _ _ _ _ = State.mk _ _ _ _
 have hb : bufAt (sSt vs i) 0 = (vs.take i).map (Entry.mk 0) := rfl
 rw [hb]
 have e : (vs.take i).map (Entry.mk 0) ++ [⟨0, vs[i]⟩] = (vs.take (i + 1)).map (Entry.mk 0) := by
  rw [List.take_add_one, List.getElem?_eq_getElem h, List.map_append]; rfl
 rw [e]
 rfl
theorem sFl_0 (vs : List Int) : sSt vs vs.length = sFl vs 0 := by
 unfold sSt sFl
 rw [List.take_length, List.drop_zero]
 rfl
theorem own_flush {vs : List Int} {j : Nat} (h : j < vs.length) : (tsoW (pOwn vs) (sFl vs j) 0 true).1 = sFl vs (j + 1) := by
 rw [show (0 : Int) = ((0 : Nat) : Int) from rfl, tsoW_f (by show 0 < 2; decide)]
 have hb : bufAt (sFl vs j) 0 = ⟨0, vs[j]⟩ :: (vs.drop (j + 1)).map (Entry.mk 0) := by
  show (vs.drop j).map (Entry.mk 0) = _
  rw [List.drop_eq_getElem_cons h]; rfl
 rw [flushW_cons hb]
 have hv : lastV vs (j + 1) = vs[j] := by
  unfold lastV
  rw [if_neg (Nat.succ_ne_zero _), Nat.add_sub_cancel, List.getD_eq_getElem?_getD, List.getElem?_eq_getElem h]; rfl
 unfold sFl
 rw [hv]
 rfl
theorem last_map (l : List Int) (v : Int) : lastE ((l ++ [v]).map (Entry.mk 0)) 0 = some v := by
 rw [List.map_append, List.map_singleton, lastE_snoc]; rfl
theorem own_seen {vs : List Int} {j : Nat} (h : j ≤ vs.length) : seenW (sFl vs j) 0 0 = lastV vs vs.length := by
 unfold seenW
 have hb : bufAt (sFl vs j) 0 = (vs.drop j).map (Entry.mk 0) := rfl
 rw [hb]
 by_cases hj : j = vs.length
 ·rw [hj, List.drop_length]; rfl
 ·obtain ⟨ws, v, rfl⟩ : ∃ ws v, vs = ws ++ [v] := by
   rcases List.eq_nil_or_concat vs with rfl | ⟨ws, v, e⟩
   ·simp at h hj; omega
   ·exact ⟨ws, v, by simpa using e⟩
  rw [List.length_append, List.length_singleton] at h hj
  rw [List.drop_append_of_le_length (by omega), last_map]
  unfold lastV
  rw [if_neg (by simp), List.length_append, List.length_singleton, Nat.add_sub_cancel, List.getD_eq_getElem?_getD, List.getElem?_append_right (Nat.le_refl _), Nat.sub_self]
  rfl
def ldT (x : Thr) (v : Int) : Thr := { x with r1 := v, pc := i64 (x.pc + 1) }
theorem own_load {vs : List Int} {j : Nat} (h : j ≤ vs.length) : (tsoW (pOwn vs) (sFl vs j) 0 false).1 = { sFl vs j with thr := [ldT (pcT vs.length) (lastV vs vs.length), zThr] } := by
 have hc := own_cur0 vs
 have hn : nextW (pOwn vs) ((0 : Nat) : Int) (pcT vs.length) = ⟨2, 0, 0⟩ := by
  unfold nextW; rw [hc]; rfl
 rw [show (0 : Int) = ((0 : Nat) : Int) from rfl, tsoW_s (x := pcT vs.length) rfl, stepB_2 (by rw [hn]), hn, own_seen h]
 have hl : loadedW (pOwn vs) ((0 : Nat) : Int) (pcT vs.length) (lastV vs vs.length) = ldT (pcT vs.length) (lastV vs vs.length) := by
  unfold loadedW; rw [hc]; rfl
 rw [hl]
 rfl
theorem own_load1 {vs : List Int} {j : Nat} (y : Thr) : (tsoW (pOwn vs) { sFl vs j with thr := [y, zThr] } 1 false).1 = { sFl vs j with thr := [y, ldT zThr (lastV vs j)] } := by
 have hc : curI (pOwn vs) 1 zThr = some ldI := rfl
 have hn : nextW (pOwn vs) ((1 : Nat) : Int) zThr = ⟨2, 0, 0⟩ := by
  unfold nextW; rw [show curI (pOwn vs) ((1 : Nat) : Int) zThr = some ldI from hc]; rfl
 rw [show (1 : Int) = ((1 : Nat) : Int) from rfl, tsoW_s (x := zThr) rfl, stepB_2 (by rw [hn]), hn]
 have hl : ∀ v, loadedW (pOwn vs) ((1 : Nat) : Int) zThr v = ldT zThr v := fun v => by
  unfold loadedW; rw [show curI (pOwn vs) ((1 : Nat) : Int) zThr = some ldI from hc]; rfl
 rw [hl]
 rfl
end Go.Proofs.YtphcaohldmdglaaDoor
namespace Go.Proofs.YtphcaohldmdglaaDoor
set_option maxRecDepth 20000
open Go Go.Proofs.YtphcaohldmdglaaDoor.V Go.Proofs
def rawMov (v : Int) : List TV := [tI 1, tB false, tI 0, tI 3, tI 0, tI 0, tI 0, tI 2, tI 0, tI 0, tI v, .v (.string (bs [])), .v (.slice none 0 0)]
def rawLd : List TV := [tI 1, tB false, tI 0, tI 1, tI 1, tI 0, tI 0, tI 3, tI 0, tI 0, tI 0, .v (.string (bs [])), .v (.slice none 0 0)]
def rawHlt : List TV := [tI 14, tB false, tI 0, tI 0, tI 0, tI 0, tI 0, tI 0, tI 0, tI 0, tI 0, .v (.string (bs [])), .v (.slice none 0 0)]
theorem nz13 {a0 a1 a2 a3 a4 a5 a6 a7 a8 a9 b0 b1 : TV} : NzL [a0, a1, a2, a3, a4, a5, a6, a7, a8, a9, b0, b1, .v (.slice none 0 0)] [a0, a1, a2, a3, a4, a5, a6, a7, a8, a9, b0, b1, .lst 1 []] := by
 repeat' (first | exact .nil | refine .cons ?_ ?_ | exact .nil 1 | exact .refl _)
theorem nz_movs : ∀ (l : List Int), NzL (l.map rawMov).flatten ((l.map movI).map cIns).flatten
 | [] => .nil
 | v :: l => by
  rw [List.map_cons, List.map_cons, List.map_cons, List.flatten_cons, List.flatten_cons]
  exact NzL.append nz13 (nz_movs l)
theorem row2 {α : Type} {l : List α} (h : l.length = 2) : ∃ a b, l = [a, b] := by
 match l, h with
 | [a, b], _ => exact ⟨a, b, rfl⟩
def ownQ (vs : List Int) (q : MS) (i : Nat) : MS := runT (pOwn vs) q (List.replicate i ((0 : Int), false))
def ownF (vs : List Int) (q : MS) (j : Nat) : MS := runT (pOwn vs) (ownQ vs q vs.length) (List.replicate j ((0 : Int), true))
theorem ownQ_st {vs : List Int} (h10 : vs.length ≤ 10) {q : MS} (h0 : q.1 = sSt vs 0) : ∀ i, i ≤ vs.length → (ownQ vs q i).1 = sSt vs i
 | 0, _ => h0
 | i + 1, h => by
  have ih := ownQ_st h10 h0 i (by omega)
  unfold ownQ at ih ⊢
  rw [List.replicate_succ', runT_snoc]
  show (tsoW _ (runT _ _ _).1 0 false).1 = _
  rw [ih, own_store h10 (by omega)]
theorem ownF_st {vs : List Int} (h10 : vs.length ≤ 10) {q : MS} (h0 : q.1 = sSt vs 0) : ∀ j, j ≤ vs.length → (ownF vs q j).1 = sFl vs j
 | 0, _ => (ownQ_st h10 h0 _ (Nat.le_refl _)).trans (sFl_0 vs)
 | j + 1, h => by
  have ih := ownF_st h10 h0 j (by omega)
  unfold ownF at ih ⊢
  rw [List.replicate_succ', runT_snoc]
  show (tsoW _ (runT _ _ _).1 0 true).1 = _
  rw [ih, own_flush (by omega)]
section
attribute [local irreducible] TwS TwR thenT inBlockT retT nextW localW loadedW swapW Rg.push Rg.pop tsoW doR
set_option maxHeartbeats 20000000 in
theorem tsoOwn (vals : List Int) (hv : ∀ v ∈ vals, inR v) (k : Int) : Pure prog Tabs n_law_TsoOwn [rwI vals, tI k] (tB true) := by
 have c3 := alive_spec
 have hlm : (vals.map fun n => [tI n]).length = vals.length := List.length_map ..
 obtain ⟨n, hn⟩ : ∃ n, n = min vals.length 10 := ⟨_, rfl⟩
 obtain ⟨vs, hvs⟩ : ∃ vs, vs = vals.take n := ⟨_, rfl⟩
 have hvl : vs.length = n := by rw [hvs, List.length_take]; omega
 have h10 : vs.length ≤ 10 := by omega
 have hin : ∀ v ∈ vs, inR v := fun v h => hv v (by rw [hvs] at h; exact List.mem_of_mem_take h)
 have ho := pOwn_okP h10
 have hc := pOwn_ok h10
 have hnn := pOwn_nums hin
 have hq0 : mQ (pOwn vs) 0 (beginM (pOwn vs)) := beginM_ok (start_q (by
  intro v h
  have : v = -7 := by simpa using (show v ∈ [(-7 : Int)] from h)
  rw [this]; unfold inR; decide))
 have hq00 : (beginM (pOwn vs)).1 = sSt vs 0 := rfl
 have h3 : (pOwn vs).threads.length ≤ 3 := by show 2 ≤ 3; decide
 have c2 := tnew_own (pOwn vs) ho hc (start_okS hc) rfl h3
 have h5 : (if (10 : Int) < ((vals.map fun n => [tI n]).length : Int) then 10 else ((vals.map fun n => [tI n]).length : Int)) = (n : Int) := by split <;> omega
 have hget : ∀ i, i < n → ∃ x, vals[i]? = some x ∧ vs[i]? = some x ∧ lastV vs (i + 1) = x := fun i hi => by
  have h1 : vals[i]? = some vals[i] := List.getElem?_eq_getElem (by omega)
  have h2 : vs[i]? = some vals[i] := by subst hvs; rw [List.getElem?_take, if_pos hi]; exact h1
  exact ⟨_, h1, h2, by unfold lastV; rw [if_neg (Nat.succ_ne_zero _), Nat.add_sub_cancel, List.getD_eq_getElem?_getD, h2]; rfl⟩
 have hw : ∀ i : Nat, i ≤ 10 → IntKind.i64.wrap ((i : Int) + 1) = ((i + 1 : Nat) : Int) := fun i hi => by rw [w64 (by omega)]; rfl
 refine Pure.of mixedOk (fn := f_law_TsoOwn) (by kernel_rfl) (by kernel_rfl) ok_law_TsoOwn rfl fun C hP hG hp => goF ?_; simp only [fs_law_TsoOwn, targEnv, Nat.zero_add, Nat.reduceAdd]
 repeat' (first | refine goR rfl ?_ | refine goS rfl ?_ | refine tret1 rfl ?_ | refine tretN rfl ?_ | refine tr_guard_y rfl rfl ?_ | refine tr_guard_n rfl rfl ?_ | refine ts_cond_t rfl rfl ?_ | refine ts_cond_f rfl rfl ?_ | fail)
 rw [h5]
 refine loopS (fun m env σ => ∃ i, i ≤ n ∧ m = n - i ∧ env = [(0, rwI vals), (1, tI k), (5, tI n), (6, .p 0 0), (7, .p 1 0), (8, tI i)] ∧ σ = ⟨[(0, .cells [tI 3, tI 0, tI 0, tI 0] ty_api_Opd), (1, .cells [.s 2 13 0 i true] ty_api_Thread), (2, .rows 13 ((vs.take i).map rawMov) ty_api_Ins)], 3⟩) n
  ((w_virtC (j := 1) (i := 0) 13 ty_api_Ins rfl rfl).trans (w_canon 3 [] [0, 1, 5, 6, 7, 8] hp rfl rfl rfl rfl)) ⟨0, by omega, by omega, rfl, rfl⟩ ?_
 rintro m1 env σ ⟨i, hi, rfl, rfl, rfl⟩
 have hti : ((vs.take i).map rawMov).length = i := by rw [List.length_map, List.length_take]; omega
 by_cases hlt : i < n
 ·obtain ⟨x, hx, hx2, _⟩ := hget i hlt
  repeat' (first | refine goR rfl ?_ | refine goS rfl ?_ | refine tret1 rfl ?_ | refine tretN rfl ?_ | refine tr_guard_y rfl rfl ?_ | refine tr_guard_n rfl rfl ?_ | refine ts_cond_t rfl rfl ?_ | refine ts_cond_f rfl rfl ?_ | refine ts_cond_t rfl (decide_eq_true (by omega)) ?_ | refine tr_light (tl_ixm rfl rfl rfl hx) ?_ | refine tr_append rfl rfl hti.symm (.inr (.inr ⟨_, _, _, _, rfl, rfl, rfl⟩)) (by simp only [List.length_cons, List.length_nil]; omega) rfl ?_ | fail)
  refine again (m' := n - (i + 1)) (by omega) (w_canon 3 [] [0, 1, 5, 6, 7, 8] hp rfl rfl rfl rfl) ⟨i + 1, hlt, rfl, by rw [hw i (by omega)], ?_⟩
  rw [show (vs.take (i + 1)).map rawMov = (vs.take i).map rawMov ++ [rawMov x] by rw [List.take_add_one, hx2, List.map_append]; rfl]
  rfl
 have hie : i = n := by omega
 rw [hie] at hti ⊢
 clear hlt hi hie
 rw [show vs.take n = vs from List.take_of_length_le (by omega)] at hti ⊢
 repeat' (first | refine goR rfl ?_ | refine goS rfl ?_ | refine tret1 rfl ?_ | refine tretN rfl ?_ | refine tr_guard_y rfl rfl ?_ | refine tr_guard_n rfl rfl ?_ | refine ts_cond_t rfl rfl ?_ | refine ts_cond_f rfl rfl ?_ | refine ts_cond_f rfl (decide_eq_false (by omega)) ?_ | refine tr_append rfl rfl hti.symm (.inr (.inr ⟨_, _, _, _, rfl, rfl, rfl⟩)) (by simp only [List.length_cons, List.length_nil]; omega) rfl ?_ | refine tr_frzA 49 2 rfl rfl rfl rfl ?_ | fail)
 have hcl : ∀ (l : List Ins) (y : List TV), y ∈ l.map cIns → y.length = 13 := fun l y hy => by obtain ⟨z, _, rfl⟩ := List.mem_map.1 hy; rfl
 have hnz : NzL (vs.map rawMov ++ [rawLd, rawHlt]).flatten ((vs.map movI ++ [ldI, hltI]).map cIns).flatten := by
  rw [List.map_append, List.flatten_append, List.flatten_append]
  exact (nz_movs vs).append (NzL.append nz13 (NzL.append nz13 .nil))
 refine tr_weak (w_rowsA (k := 5) (ys := (vs.map movI ++ [ldI, hltI]).map cIns) rfl (by simp) (by simp) (hcl _) hnz) ?_
 refine tr_weak (w_rowsA (k := 8) (ys := [ldI, hltI].map cIns) rfl rfl (by intro h; cases h) (hcl _) (NzL.append nz13 (NzL.append nz13 .nil))) ?_
 have hq1 : (vs.map rawMov ++ [rawLd, rawHlt]).length = ((vs.map movI ++ [ldI, hltI]).map cIns).length := by simp
 refine tr_frzA 51 0 rfl rfl rfl (by rw [List.length_map, List.length_append, ← hvl]; simp) ?_
 refine tr_frzA 55 0 rfl rfl rfl rfl ?_
 repeat' (first | refine goR rfl ?_ | refine goS rfl ?_ | refine tret1 rfl ?_ | refine tretN rfl ?_ | refine tr_guard_y rfl rfl ?_ | refine tr_guard_n rfl rfl ?_ | refine ts_cond_t rfl rfl ?_ | refine ts_cond_f rfl rfl ?_ | refine tr_frzA 58 0 rfl rfl rfl rfl ?_ | refine tr_frzA 58 1 rfl rfl rfl rfl ?_ | refine tr_mcallX hP hG (c2) rfl rfl rfl rfl rfl rfl rfl rfl rfl rfl rfl rfl ?_ | fail)
 refine loopS (fun m env σ => ∃ i, i ≤ n ∧ m = n - i ∧ env = [(11, .p 0 0), (0, rwI vals), (1, tI k), (5, tI n), (12, tI (lastV vs i)), (13, tI (-7)), (14, tI i)] ∧ σ = ⟨tsM (pOwn vs) (ownQ vs (beginM (pOwn vs)) i).1 (ownQ vs (beginM (pOwn vs)) i).2 0, 60⟩) n
  (w_canon 60 [] [11, 0, 1, 5, 12, 13, 14] hp rfl rfl rfl rfl) ⟨0, by omega, by omega, rfl, rfl⟩ ?_
 rintro m1 env σ ⟨i, hi, rfl, rfl, rfl⟩
 have hqi : mQ (pOwn vs) (0 + i) (ownQ vs (beginM (pOwn vs)) i) := by
  have := hq0.run hc hnn (List.replicate i ((0 : Int), false))
  rwa [List.length_replicate] at this
 by_cases hlt : i < n
 ·obtain ⟨x, hx, hx2, hx3⟩ := hget i hlt
  have hnx : ownQ vs (beginM (pOwn vs)) (i + 1) = mW (pOwn vs) (ownQ vs (beginM (pOwn vs)) i) ((0 : Int), false) := by
   unfold ownQ; rw [List.replicate_succ', runT_snoc]
  have hqi2 := hqi.step hc hnn ((0 : Int), false)
  have c5 := tdo_own (pOwn vs) ho hc _ hqi (by omega) h3 0 false
  obtain ⟨s1, R1, hq1, hl1, hR1⟩ := hqi.split hq0 h3
  obtain ⟨s2, R2, hq2, hl2, hR2⟩ := hqi2.split hq0 h3
  rw [hq2] at c5 hnx
  rw [hq1] at c5
  simp only at c5
  generalize (tsoW (pOwn vs) s1 0 false).2 = b1 at c5
  rw [hq1]
  obtain ⟨_, _, rfl⟩ := row2 hl1
  obtain ⟨_, _, rfl⟩ := row2 hl2
  repeat' (first | refine goR rfl ?_ | refine goS rfl ?_ | refine tret1 rfl ?_ | refine tretN rfl ?_ | refine tr_guard_y rfl rfl ?_ | refine tr_guard_n rfl rfl ?_ | refine ts_cond_t rfl rfl ?_ | refine ts_cond_f rfl rfl ?_ | refine ts_cond_t rfl (decide_eq_true (by omega)) ?_ | refine tr_light (tl_ixm rfl rfl rfl hx) ?_ | refine tr_mcallX hP hG (c5) rfl rfl rfl rfl rfl rfl rfl rfl rfl rfl rfl rfl ?_ | fail)
  exact again (m' := n - (i + 1)) (by omega) (w_canon 60 [] [11, 0, 1, 5, 12, 13, 14] hp rfl rfl rfl rfl) ⟨i + 1, hlt, rfl, by rw [hw i (by omega), hx3], by rw [hnx]; rfl⟩
 have hie : i = n := by omega
 subst hie
 subst hvl
 obtain ⟨s0, R0, hqn, hln, hRn⟩ := hqi.split hq0 h3
 have hFn : ownF vs (beginM (pOwn vs)) 0 = ownQ vs (beginM (pOwn vs)) vs.length := rfl
 rw [← hFn]
 repeat' (first | refine goR rfl ?_ | refine goS rfl ?_ | refine tret1 rfl ?_ | refine tretN rfl ?_ | refine tr_guard_y rfl rfl ?_ | refine tr_guard_n rfl rfl ?_ | refine ts_cond_t rfl rfl ?_ | refine ts_cond_f rfl rfl ?_ | refine ts_cond_f rfl (decide_eq_false (by omega)) ?_ | fail)
 refine loopS (fun m env σ => ∃ j, j ≤ vs.length ∧ (j : Int) ≤ k % ((vs.length + 1 : Nat) : Int) ∧ m = vs.length - j ∧ env = [(11, .p 0 0), (0, rwI vals), (1, tI k), (5, tI vs.length), (12, tI (lastV vs vs.length)), (13, tI (lastV vs j)), (15, tI j)] ∧ σ = ⟨tsM (pOwn vs) (ownF vs (beginM (pOwn vs)) j).1 (ownF vs (beginM (pOwn vs)) j).2 0, 60⟩) vs.length
  (w_sub [11, 0, 1, 5, 12, 13, 15] rfl) ⟨0, by omega, Int.emod_nonneg _ (by omega), by omega, rfl, rfl⟩ ?_
 rintro m2 env σ ⟨j, hj, hjk, rfl, rfl, rfl⟩
 have hqj : mQ (pOwn vs) (0 + vs.length + j) (ownF vs (beginM (pOwn vs)) j) := by
  have := (hq0.run hc hnn (List.replicate vs.length ((0 : Int), false))).run hc hnn (List.replicate j ((0 : Int), true))
  rwa [List.length_replicate, List.length_replicate] at this
 have hst := ownF_st h10 hq00 j (by omega)
 have hk0 : 0 ≤ k % ((vs.length + 1 : Nat) : Int) := Int.emod_nonneg _ (by omega)
 have hk1 : k % ((vs.length + 1 : Nat) : Int) < ((vs.length + 1 : Nat) : Int) := Int.emod_lt_of_pos _ (by omega)
 have cp : ∀ G, Pure prog G n_book_Pick [tI k, tI ((vs.length + 1 : Nat) : Int)] (tI (k % ((vs.length + 1 : Nat) : Int))) := fun G => pick_spec k vs.length (by omega)
 rw [← hw vs.length (by omega)] at cp
 rw [hw vs.length (by omega)] at cp
 by_cases hlt : (j : Int) < k % ((vs.length + 1 : Nat) : Int)
 ·obtain ⟨x, hx, hx2, hx3⟩ := hget j (by omega)
  have hnx : ownF vs (beginM (pOwn vs)) (j + 1) = mW (pOwn vs) (ownF vs (beginM (pOwn vs)) j) ((0 : Int), true) := by
   unfold ownF; rw [List.replicate_succ', runT_snoc]
  have hqi2 := hqj.step hc hnn ((0 : Int), true)
  have c5 := tdo_own (pOwn vs) ho hc _ hqj (by omega) h3 0 true
  obtain ⟨s1, R1, hq1, hl1, hR1⟩ := hqj.split hq0 h3
  obtain ⟨s2, R2, hq2, hl2, hR2⟩ := hqi2.split hq0 h3
  rw [hq2] at c5 hnx
  rw [hq1] at c5
  simp only at c5
  generalize (tsoW (pOwn vs) s1 0 true).2 = b1 at c5
  rw [hq1]
  obtain ⟨_, _, rfl⟩ := row2 hl1
  obtain ⟨_, _, rfl⟩ := row2 hl2
  repeat' (first | refine goR rfl ?_ | refine goS rfl ?_ | refine tret1 rfl ?_ | refine tretN rfl ?_ | refine tr_guard_y rfl rfl ?_ | refine tr_guard_n rfl rfl ?_ | refine ts_cond_t rfl rfl ?_ | refine ts_cond_f rfl rfl ?_ | (rw [hw vs.length (by omega)]; refine tr_callA rfl (by rw [hP]; exact cp _) rfl ?_) | refine ts_cond_t rfl (decide_eq_true hlt) ?_ | refine tr_light (tl_ixm rfl rfl rfl hx) ?_ | refine tr_mcallX hP hG (c5) rfl rfl rfl rfl rfl rfl rfl rfl rfl rfl rfl rfl ?_ | fail)
  exact again (m' := vs.length - (j + 1)) (by omega) (w_canon 60 [] [11, 0, 1, 5, 12, 13, 15] hp rfl rfl rfl rfl) ⟨j + 1, by omega, by omega, rfl, by rw [hw j (by omega), hx3], by rw [hnx]; rfl⟩
 ·have c5 := tdo_own (pOwn vs) ho hc _ hqj (by omega) h3 0 false
  have hqa := hqj.step hc hnn ((0 : Int), false)
  have c6 := tdo_own (pOwn vs) ho hc _ hqa (by omega) h3 1 false
  have hqb := hqa.step hc hnn ((1 : Int), false)
  have c7 := tstate_own (G := Tabs) (pOwn vs) _ hqb (by omega) (by have := hqb.memLen hc; omega) h3
  have ha : (mW (pOwn vs) (ownF vs (beginM (pOwn vs)) j) ((0 : Int), false)).1 = { sFl vs j with thr := [ldT (pcT vs.length) (lastV vs vs.length), zThr] } := by
   show (tsoW (pOwn vs) (ownF vs (beginM (pOwn vs)) j).1 0 false).1 = _
   rw [hst, own_load (by omega)]
  have hb : (mW (pOwn vs) (mW (pOwn vs) (ownF vs (beginM (pOwn vs)) j) ((0 : Int), false)) ((1 : Int), false)).1 = { sFl vs j with thr := [ldT (pcT vs.length) (lastV vs vs.length), ldT zThr (lastV vs j)] } := by
   show (tsoW (pOwn vs) (mW (pOwn vs) (ownF vs (beginM (pOwn vs)) j) ((0 : Int), false)).1 1 false).1 = _
   rw [ha, own_load1]
  obtain ⟨s1, R1, hq1, hl1, hR1⟩ := hqj.split hq0 h3
  obtain ⟨s2, R2, hq2, hl2, hR2⟩ := hqa.split hq0 h3
  obtain ⟨s3, R3, hq3, hl3, hR3⟩ := hqb.split hq0 h3
  rw [hq3] at c6 c7 hb
  rw [hq2] at c5 c6
  rw [hq1] at c5
  simp only at c5 c6 c7 hb
  subst hb
  generalize (tsoW (pOwn vs) s1 0 false).2 = b1 at c5
  generalize (tsoW (pOwn vs) s2 1 false).2 = b2 at c6
  rw [hq1]
  obtain ⟨_, _, rfl⟩ := row2 hl1
  obtain ⟨_, _, rfl⟩ := row2 hl2
  obtain ⟨_, _, rfl⟩ := row2 hl3
  repeat' (first | refine goR rfl ?_ | refine goS rfl ?_ | refine tret1 rfl ?_ | refine tretN rfl ?_ | refine tr_guard_y rfl rfl ?_ | refine tr_guard_n rfl rfl ?_ | refine ts_cond_t rfl rfl ?_ | refine ts_cond_f rfl rfl ?_ | (rw [hw vs.length (by omega)]; refine tr_callA rfl (by rw [hP]; exact cp _) rfl ?_) | refine ts_cond_f rfl (decide_eq_false hlt) ?_ | refine tr_mcallX hP hG (c5) rfl rfl rfl rfl rfl rfl rfl rfl rfl rfl rfl rfl ?_ | refine tr_mcallX hP hG (c6) rfl rfl rfl rfl rfl rfl rfl rfl rfl rfl rfl rfl ?_ | refine tr_mcallX hP hG (c7) rfl rfl rfl rfl rfl rfl rfl rfl rfl rfl rfl rfl ?_ | refine tr_light (tl_ixo (m := 0) rfl rfl rfl (Nat.le_of_ble_eq_true rfl)) ?_ | refine tr_light (tl_ixo (m := 1) rfl rfl rfl (Nat.le_of_ble_eq_true rfl)) ?_ | refine tr_light (tl_ldE rfl rfl rfl rfl) ?_ | refine tr_light (tl_iaAe rfl rfl (by decide)) ?_ | refine tr_callA rfl (by rw [hP, hG]; exact c3) rfl ?_ | ((first | refine tg_split rfl (fun h => ?_) (fun h => ?_) | refine ts_cond rfl (fun h => ?_) (fun h => ?_)) <;> (try simp only [bs0, beq_iff_eq] at h) <;> try (exfalso; first | exact h trivial | exact h rfl; done)) | fail)
  exact .fr rfl
end
end Go.Proofs.YtphcaohldmdglaaDoor
