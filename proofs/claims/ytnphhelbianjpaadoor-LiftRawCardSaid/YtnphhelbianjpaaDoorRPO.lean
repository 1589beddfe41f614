/-
  Walks of functions of the program, and what the laws need of them.
-/
import Derived.Test.YtnphhelbianjpaaDoorRPM
import Derived.Test.YtnphhelbianjpaaDoorRPG
import Derived.Test.YtnphhelbianjpaaDoorVI
import Derived.Test.YtnphhelbianjpaaDoorRPC
import Derived.Test.YtnphhelbianjpaaDoorRPN
import Derived.Test.YtnphhelbianjpaaDoorRPH
set_option linter.all false
set_option linter.unusedSimpArgs false
set_option linter.unusedVariables false
set_option linter.unnecessarySimpa false
namespace Go.Proofs.YtnphhelbianjpaaDoor
set_option maxRecDepth 20000
open Go Go.Proofs.YtnphhelbianjpaaDoor.V Go.Proofs
def greatL (pts : List (List Int)) : Bool := decide (pts.length > 10) || pts.any fun l => decide (l.length > 30)
theorem greatL_no {pts : List (List Int)} (h : greatL pts = false) : pts.length ≤ 10 ∧ ∀ l ∈ pts, l.length ≤ 30 := by
 unfold greatL at h
 rw [Bool.or_eq_false_iff] at h
 refine ⟨by have := of_decide_eq_false h.1; omega, fun l hl => ?_⟩
 have := List.any_eq_false.1 h.2 l hl
 simp at this
 omega
def mkBs (n : Nat) (l : List Int) : List Bool := l.foldl (fun bs x => bs.set (x % (n : Int)).toNat true) (List.replicate n false)
def ixsB : Nat → List Bool → List Int
 | _, [] => []
 | k, b :: r => (if b = true then [(k : Int)] else []) ++ ixsB (k + 1) r
def ptsF : List (List Int) → List (List Ins) → List (List Int)
 | l :: ls, t :: ts => ixsB 0 (mkBs t.length l) :: ptsF ls ts
 | _, _ => []
theorem mkBs_snoc (n : Nat) (a : List Int) (x : Int) : mkBs n (a ++ [x]) = (mkBs n a).set (x % (n : Int)).toNat true := by
 unfold mkBs; rw [List.foldl_append]; rfl
theorem mkBs_len (n : Nat) (l : List Int) : (mkBs n l).length = n := by
 have key : ∀ (l : List Int) (bs : List Bool), (l.foldl (fun bs x => bs.set (x % (n : Int)).toNat true) bs).length = bs.length := by
  intro l
  induction l with
  | nil => intro bs; rfl
  | cons x l ih => intro bs; rw [List.foldl_cons, ih, List.length_set]
 unfold mkBs
 rw [key, List.length_replicate]
theorem ixsB_snoc : ∀ (a : List Bool) (k : Nat) (b : Bool), ixsB k (a ++ [b]) = ixsB k a ++ (if b = true then [((k + a.length : Nat) : Int)] else [])
 | [], k, b => by
  show (if _ then _ else []) ++ [] = [] ++ _
  rw [List.append_nil, List.nil_append]; rfl
 | c :: a, k, b => by
  show (if _ then _ else []) ++ ixsB (k + 1) (a ++ [b]) = ((if _ then _ else []) ++ ixsB (k + 1) a) ++ _
  rw [ixsB_snoc a (k + 1) b, List.append_assoc, List.length_cons, show k + 1 + a.length = k + (a.length + 1) by omega]
theorem ixsB_len : ∀ (l : List Bool) (k : Nat), (ixsB k l).length ≤ l.length
 | [], _ => Nat.le_refl _
 | b :: l, k => by
  have := ixsB_len l (k + 1)
  show ((if _ then _ else []) ++ ixsB (k + 1) l).length ≤ _
  rw [lA, List.length_cons]
  split <;> simp only [List.length_cons, List.length_nil] <;> omega
theorem ixsB_mem : ∀ (l : List Bool) (k : Nat) (a : Int), a ∈ ixsB k l → (k : Int) ≤ a ∧ a < ((k + l.length : Nat) : Int)
 | [], _, _, h => by cases h
 | b :: l, k, a, h => by
  have h : a ∈ (if b = true then [(k : Int)] else []) ++ ixsB (k + 1) l := h
  rw [List.length_cons]
  rcases List.mem_append.1 h with h | h
  ·split at h
   ·rw [List.mem_singleton.1 h]; omega
   ·cases h
  ·have := ixsB_mem l (k + 1) a h; omega
theorem ixsB_ord : ∀ (l : List Bool) (k : Nat), k + l.length ≤ 2147483647 → ordF none (ixsB k l) = true ∧ ∀ q : Int, q < (k : Int) → ordF (some q) (ixsB k l) = true
 | [], _, _ => ⟨rfl, fun _ _ => rfl⟩
 | b :: l, k, h => by
  rw [List.length_cons] at h
  obtain ⟨h1, h2⟩ := ixsB_ord l (k + 1) (by omega)
  cases b with
  | false =>
   refine ⟨h1, fun q hq => h2 q (by omega)⟩
  | true =>
   have h3 := h2 (k : Int) (by omega)
   refine ⟨?_, fun q hq => ?_⟩
   ·show ordF none ((k : Int) :: ixsB (k + 1) l) = true
    rw [ordF, if_neg (by omega)]; exact h3
   ·show ordF (some q) ((k : Int) :: ixsB (k + 1) l) = true
    rw [ordF, if_neg (by omega)]; exact h3
theorem ixs_ok {n : Nat} (hn : n ≤ 100000) (l : List Int) : ordF none (ixsB 0 (mkBs n l)) = true ∧ lastOk (ixsB 0 (mkBs n l)) n = true := by
 have hl := mkBs_len n l
 refine ⟨(ixsB_ord _ 0 (by omega)).1, ?_⟩
 unfold lastOk
 cases h : (ixsB 0 (mkBs n l)).getLast? with
 | none => rfl
 | some q =>
  have := ixsB_mem _ 0 q (List.mem_of_getLast? h)
  exact dT (by omega)
theorem ptsF_ok : ∀ (ls : List (List Int)) (ts : List (List Ins)), (∀ t ∈ ts, t.length ≤ 100000) → inL (ptsF ls ts) ts = true ∧ (ptsF ls ts).length ≤ ts.length ∧ ∀ l ∈ ptsF ls ts, l.length ≤ 1000000
 | [], ts, _ => by
  have e : ptsF [] ts = [] := by cases ts <;> rfl
  rw [e]
  exact ⟨by cases ts <;> rfl, Nat.zero_le _, fun l h => by cases h⟩
 | l :: ls, [], _ => ⟨rfl, Nat.le_refl _, fun l h => by cases h⟩
 | l :: ls, t :: ts, h => by
  obtain ⟨g1, g2, g3⟩ := ptsF_ok ls ts (fun x hx => h x (List.mem_cons_of_mem _ hx))
  have ht := h t (List.mem_cons_self ..)
  obtain ⟨r1, r2⟩ := ixs_ok ht l
  refine ⟨?_, ?_, fun x hx => ?_⟩
  ·show ((ordF none (ixsB 0 (mkBs t.length l)) && lastOk (ixsB 0 (mkBs t.length l)) t.length) && inL (ptsF ls ts) ts) = true
   rw [r1, r2, g1]; rfl
  ·show (ptsF ls ts).length + 1 ≤ ts.length + 1
   omega
  ·rcases List.mem_cons.1 hx with rfl | hx
   ·have := ixsB_len (mkBs t.length l) 0
    rw [mkBs_len] at this
    omega
   ·exact g3 x hx
theorem ptsF_len : ∀ (ls : List (List Int)) (ts : List (List Ins)), (ptsF ls ts).length = min ls.length ts.length
 | [], ts => by
  have e : ptsF [] ts = [] := by cases ts <;> rfl
  rw [e, List.length_nil]; omega
 | l :: ls, [] => by show 0 = _; rw [List.length_nil]; omega
 | l :: ls, t :: ts => by
  show (ptsF ls ts).length + 1 = _
  rw [ptsF_len ls ts, List.length_cons, List.length_cons]; omega
theorem ptsF_get : ∀ {ls : List (List Int)} {ts : List (List Ins)} {k : Nat} {l : List Int} {t : List Ins}, ls[k]? = some l → ts[k]? = some t → (ptsF ls ts)[k]? = some (ixsB 0 (mkBs t.length l))
 | [], _, _, _, _, h, _ => by simp at h
 | _ :: _, [], _, _, _, _, h => by simp at h
 | l :: ls, t :: ts, 0, _, _, h, h' => by cases h; cases h'; rfl
 | _ :: ls, _ :: ts, k + 1, l, t, h, h' => ptsF_get (ls := ls) (ts := ts) (k := k) (by simpa using h) (by simpa using h')
section
attribute [local irreducible] TwS TwR thenT inBlockT retT
variable {G : World → Prop}
set_option maxHeartbeats 20000000 in
theorem greatLists_spec (pts : List (List Int)) : Pure prog G 6 [ptR pts] (tB (greatL pts)) := by
 have hml : (pts.map fun l => [rwI l]).length = pts.length := lM ..
 by_cases h10 : pts.length > 10
 ·rw [show greatL pts = true by unfold greatL; rw [dT h10]; rfl]
  refine Pure.at mixedOk F6 rfl fun C hP hG hp => goF ?_; simp only [F6, targEnv, Nat.zero_add, Nat.reduceAdd]
  repeat' (first | refine goR rfl ?_ | refine goS rfl ?_ | refine tret1 rfl ?_ | refine tretN rfl ?_ | refine gY rfl rfl ?_ | refine gN rfl rfl ?_ | refine qT rfl rfl ?_ | refine qF rfl rfl ?_ | refine qT rfl (dT (by omega)) ?_ | fail)
  exact .fr rfl
 ·have hg : greatL pts = pts.any fun l => decide (l.length > 30) := by unfold greatL; rw [dF h10]; rfl
  refine Pure.at mixedOk F6 rfl fun C hP hG hp => goF ?_; simp only [F6, targEnv, Nat.zero_add, Nat.reduceAdd]
  repeat' (first | refine goR rfl ?_ | refine goS rfl ?_ | refine tret1 rfl ?_ | refine tretN rfl ?_ | refine gY rfl rfl ?_ | refine gN rfl rfl ?_ | refine qT rfl rfl ?_ | refine qF rfl rfl ?_ | refine qF rfl (dF (by omega)) ?_ | fail)
  refine loopS (fun m env σ => ∃ a b, pts = a ++ b ∧ m = b.length ∧ greatL pts = (b.any fun l => decide (l.length > 30)) ∧ env = [(0, ptR pts), (3, tI a.length)] ∧ σ = ⟨[], 60⟩) pts.length (w_canon 60 [] [0, 3] hp rfl rfl rfl rfl) ⟨[], pts, rfl, rfl, hg, rfl, rfl⟩ ?_
  rintro m1 env σ ⟨a, b, e, rfl, hF, rfl, rfl⟩
  have hla : pts.length = a.length + b.length := by rw [e, lA]
  cases b with
  | nil =>
   rw [List.length_nil] at hla
   rw [hF]
   repeat' (first | refine goR rfl ?_ | refine goS rfl ?_ | refine tret1 rfl ?_ | refine tretN rfl ?_ | refine gY rfl rfl ?_ | refine gN rfl rfl ?_ | refine qT rfl rfl ?_ | refine qF rfl rfl ?_ | refine qF rfl (dF (by omega)) ?_ | fail)
   exact .fr rfl
  | cons x b =>
   have hx : pts[a.length]? = some x := by rw [e]; exact ix
   simp only [List.length_cons] at hla
   have hw1 : IntKind.i64.wrap ((a.length : Int) + 1) = ((a ++ [x]).length : Int) := by rw [w64 (by omega), lA]; rfl
   have hxm : (x.map fun n => [tI n]).length = x.length := lM ..
   rw [List.any_cons] at hF
   by_cases h0 : x.length > 30
   ·rw [dT h0, Bool.true_or] at hF
    rw [hF]
    repeat' (first | refine goR rfl ?_ | refine goS rfl ?_ | refine tret1 rfl ?_ | refine tretN rfl ?_ | refine gY rfl rfl ?_ | refine gN rfl rfl ?_ | refine qT rfl rfl ?_ | refine qF rfl rfl ?_ | refine qT rfl (dT (by omega)) ?_ | refine lT (tl_ixm rfl rfl rfl hx) ?_ | fail)
    exact .fr rfl
   ·rw [dF h0, Bool.false_or] at hF
    repeat' (first | refine goR rfl ?_ | refine goS rfl ?_ | refine tret1 rfl ?_ | refine tretN rfl ?_ | refine gY rfl rfl ?_ | refine gN rfl rfl ?_ | refine qT rfl rfl ?_ | refine qF rfl rfl ?_ | refine qT rfl (dT (by omega)) ?_ | refine qF rfl (dF (by omega)) ?_ | refine lT (tl_ixm rfl rfl rfl hx) ?_ | fail)
    exact again (m' := b.length) (Nat.lt_succ_self _) (w_canon 60 [] [0, 3] hp rfl rfl rfl rfl) ⟨a ++ [x], b, by rw [e]; simp, rfl, hF, by rw [hw1], rfl⟩
set_option maxHeartbeats 20000000 in
theorem points_spec (p : Prg) (hb : ∀ t ∈ p.threads, t.length ≤ 100000) (pts : List (List Int)) (h10 : pts.length ≤ 10) (h30 : ∀ l ∈ pts, l.length ≤ 30) (ht3 : p.threads.length ≤ 100000) : Pure prog G 8 [.agg (cPrg p), ptR pts, tB false] (ptR (ptsF pts p.threads)) := by
 have hml : (pts.map fun l => [rwI l]).length = pts.length := lM ..
 have hmt : (p.threads.map cTh).length = p.threads.length := lM ..
 have hpl := ptsF_len pts p.threads
 have hpg := fun {k l t} => @ptsF_get pts p.threads k l t
 generalize ptsF pts p.threads = R at *
 refine Pure.at mixedOk F8 rfl fun C hP hG hp => goF ?_; simp only [F8, targEnv, Nat.zero_add, Nat.reduceAdd]
 repeat' (first | refine goR rfl ?_ | refine goS rfl ?_ | refine tret1 rfl ?_ | refine tretN rfl ?_ | refine gY rfl rfl ?_ | refine gN rfl rfl ?_ | refine qT rfl rfl ?_ | refine qF rfl rfl ?_ | fail)
 refine loopS (fun m env σ => ∃ k : Nat, k ≤ pts.length ∧ k ≤ p.threads.length ∧ m = pts.length - k ∧ env = [(1, ptR pts), (3, .p 0 0), (7, .s 1 1 0 (R.take k).length true), (8, tI k)] ∧
  σ = ⟨[(0, .cells (cPrg p) 28), (1, .rows 1 ((R.take k).map fun l => [rwI l]) 24)], 60⟩) pts.length ((w_virt (d := 7) 1 24 rfl).trans (w_canon 60 [] [1, 3, 7, 8] hp rfl rfl rfl rfl)) ⟨0, Nat.zero_le _, Nat.zero_le _, rfl, rfl, rfl⟩ ?_
 rintro m1 env σ ⟨k, hk1, hk2, rfl, rfl, rfl⟩
 have hRk : (R.take k).length = k := by rw [List.length_take]; omega
 by_cases hlt : k < pts.length ∧ k < p.threads.length
 ·obtain ⟨hl1, hl2⟩ := hlt
  have hx : pts[k]? = some pts[k] := List.getElem?_eq_getElem hl1
  have hy : p.threads[k]? = some p.threads[k] := List.getElem?_eq_getElem hl2
  have hll := h30 _ (List.getElem_mem hl1)
  have hyb := hb _ (List.getElem_mem hl2)
  have hpk := hpg hx hy
  generalize pts[k] = l at *
  generalize p.threads[k] = ins at *
  have hil : (ins.map cIns).length = ins.length := lM ..
  have hlm : (l.map fun n => [tI n]).length = l.length := lM ..
  have hw1 : IntKind.i64.wrap ((k : Int) + 1) = ((k + 1 : Nat) : Int) := by rw [w64 (by omega)]; rfl
  have hRs : R.take (k + 1) = R.take k ++ [ixsB 0 (mkBs ins.length l)] := by rw [List.take_add_one, hpk]; rfl
  have hmk : (List.replicate ins.length [TV.v (.bool false)]) = (mkBs ins.length (l.take 0)).map fun b => [tB b] := by rw [List.take_zero]; show _ = (List.replicate ins.length false).map _; rw [List.map_replicate]
  repeat' (first | refine goR rfl ?_ | refine goS rfl ?_ | refine tret1 rfl ?_ | refine tretN rfl ?_ | refine gY rfl rfl ?_ | refine gN rfl rfl ?_ | refine qT rfl rfl ?_ | refine qF rfl rfl ?_ | refine qT rfl (dT (by omega)) ?_ | refine tg_t rfl (dT (by omega)) ?_ | refine lT (tl_ixm rfl rfl rfl hy) ?_ | refine tr_make rfl rfl rfl rfl (by omega) ?_ | fail)
  refine loopS (fun m env σ => ∃ i : Nat, i ≤ l.length ∧ m = l.length - i ∧ env = [(1, ptR pts), (3, .p 0 0), (7, .s 1 1 0 (R.take k).length true), (8, tI k), (9, .s 2 1 0 ins.length true), (10, tI i)] ∧
   σ = ⟨[(0, .cells (cPrg p) 28), (1, .rows 1 ((R.take k).map fun l => [rwI l]) 24), (2, .rows 1 ((mkBs ins.length (l.take i)).map fun b => [tB b]) 4)], 60⟩) l.length (w_canon 60 [] [1, 3, 7, 8, 9, 10] hp rfl rfl rfl rfl) ⟨0, Nat.zero_le _, rfl, by rw [hil, Int.toNat_natCast]; rfl, by rw [← hmk, hil, Int.toNat_natCast]; rfl⟩ ?_
  rintro m2 env σ ⟨i, hi, rfl, rfl, rfl⟩
  by_cases hin : i < l.length ∧ 0 < ins.length
  ·obtain ⟨hi1, hi2⟩ := hin
   have hz : l[i]? = some l[i] := List.getElem?_eq_getElem hi1
   have htk : l.take (i + 1) = l.take i ++ [l[i]] := by rw [List.take_add_one, hz]; rfl
   generalize l[i] = x at *
   have hsn := mkBs_snoc ins.length (l.take i) x
   rw [← htk] at hsn
   have hw2 : IntKind.i64.wrap ((i : Int) + 1) = ((i + 1 : Nat) : Int) := by rw [w64 (by omega)]; rfl
   obtain ⟨n', hn'⟩ : ∃ n', ins.length = n' + 1 := ⟨ins.length - 1, by omega⟩
   have cK := pick_spec (G := G) x n' (by omega)
   rw [← hn'] at cK
   have hr1 := Int.emod_nonneg x (show (ins.length : Int) ≠ 0 by omega)
   have hr2 := Int.emod_lt_of_pos x (show (0 : Int) < ins.length by omega)
   generalize x % (ins.length : Int) = e at *
   obtain ⟨e, rfl⟩ : ∃ n : Nat, e = n := ⟨e.toNat, by omega⟩
   rw [Int.toNat_natCast] at hsn
   have hel : e < ins.length := by omega
   have hbl := mkBs_len ins.length (l.take i)
   have hbg : ((mkBs ins.length (l.take i)).map fun b => [tB b])[e]? = some [tB ((mkBs ins.length (l.take i))[e]'(by omega))] := by rw [List.getElem?_map, List.getElem?_eq_getElem (by omega)]; rfl
   have hbs : ((mkBs ins.length (l.take i)).map fun b => [tB b]).set e [tB true] = (mkBs ins.length (l.take (i + 1))).map fun b => [tB b] := by rw [hsn, List.map_set]
   repeat' (first | refine goR rfl ?_ | refine goS rfl ?_ | refine tret1 rfl ?_ | refine tretN rfl ?_ | refine gY rfl rfl ?_ | refine gN rfl rfl ?_ | refine qT rfl rfl ?_ | refine qF rfl rfl ?_ | refine qT rfl (dT (by omega)) ?_ | refine tg_t rfl (dT (by omega)) ?_ | refine lT (tl_ixm rfl rfl rfl hx) ?_ | refine lT (tl_ixm rfl rfl rfl hz) ?_ | refine cA rfl (by rw [hP, hG]; exact cK) rfl ?_ | refine lT (tl_ixo (m := e) rfl rfl rfl hel) ?_ | refine tr_storeE rfl rfl hbg rfl rfl rfl rfl rfl rfl ?_ | fail)
   exact again (m' := l.length - (i + 1)) (by omega) (w_canon 60 [] [1, 3, 7, 8, 9, 10] hp rfl rfl rfl rfl) ⟨i + 1, by omega, rfl, by rw [hw2], by rw [← hbs]; rfl⟩
  ·have hfin : mkBs ins.length (l.take i) = mkBs ins.length l := by
    by_cases h : i < l.length
    ·have h0 : ins.length = 0 := by omega
     have e1 := mkBs_len ins.length (l.take i)
     have e2 := mkBs_len ins.length l
     rw [h0] at e1 e2
     rw [h0, List.eq_nil_of_length_eq_zero e1, List.eq_nil_of_length_eq_zero e2]
    ·rw [List.take_of_length_le (by omega)]
   rw [hfin]
   have hbl := mkBs_len ins.length l
   generalize mkBs ins.length l = B at *
   have hBm : (B.map fun b => [tB b]).length = ins.length := by rw [lM, hbl]
   by_cases h : i < l.length
   all_goals
    repeat' (first | refine goR rfl ?_ | refine goS rfl ?_ | refine tret1 rfl ?_ | refine tretN rfl ?_ | refine gY rfl rfl ?_ | refine gN rfl rfl ?_ | refine qT rfl rfl ?_ | refine qF rfl rfl ?_ | refine qF rfl (dF (by omega)) ?_ | refine tg_t rfl (dT (by omega)) ?_ | refine tg_f rfl (dF (by omega)) ?_ | refine lT (tl_ixm rfl rfl rfl hx) ?_ | fail)
    refine loopS (fun m env σ => ∃ c d, B = c ++ d ∧ m = d.length ∧ env = [(1, ptR pts), (3, .p 0 0), (7, .s 1 1 0 (R.take k).length true), (8, tI k), (9, .s 2 1 0 ins.length true), (11, .s 3 1 0 (ixsB 0 c).length true), (12, tI c.length)] ∧
     σ = ⟨[(0, .cells (cPrg p) 28), (1, .rows 1 ((R.take k).map fun l => [rwI l]) 24), (2, .rows 1 (B.map fun b => [tB b]) 4), (3, .rows 1 ((ixsB 0 c).map fun n => [tI n]) 3)], 60⟩) B.length ((w_virt (d := 11) 1 3 rfl).trans (w_canon 60 [] [1, 3, 7, 8, 9, 11, 12] hp rfl rfl rfl rfl)) ⟨[], B, rfl, rfl, rfl, rfl⟩ ?_
    rintro m3 env σ ⟨c, d, e3, rfl, rfl, rfl⟩
    have hlc : B.length = c.length + d.length := by rw [e3, lA]
    have hrl := ixsB_len c 0
    cases d with
    | nil =>
     rw [List.length_nil] at hlc
     rw [List.append_nil] at e3
     subst e3
     refine ts_weak (w_frzS 11 rfl rfl (by rw [lM])) ?_
     repeat' (first | refine goR rfl ?_ | refine goS rfl ?_ | refine tret1 rfl ?_ | refine tretN rfl ?_ | refine gY rfl rfl ?_ | refine gN rfl rfl ?_ | refine qT rfl rfl ?_ | refine qF rfl rfl ?_ | refine qF rfl (dF (by omega)) ?_ | refine tr_append rfl rfl (by simp only [lM]) (.inr (.inr ⟨_, _, _, _, rfl, rfl, rfl⟩)) (by simp only [List.length_cons, List.length_nil]; omega) rfl ?_ | fail)
     exact again (m' := pts.length - (k + 1)) (by omega) (w_canon 60 [] [1, 3, 7, 8] hp rfl rfl rfl rfl) ⟨k + 1, by omega, by omega, rfl, by rw [hw1, hRs, lA]; rfl, by rw [hRs, List.map_append]; rfl⟩
    | cons b d =>
     have hbx : (B.map fun b => [tB b])[c.length]? = some [tB b] := by rw [List.getElem?_map, e3]; rw [show (c ++ b :: d)[c.length]? = some b from ix]; rfl
     simp only [List.length_cons] at hlc
     have hcl : c.length < ins.length := by omega
     have hw3 : IntKind.i64.wrap ((c.length : Int) + 1) = ((c ++ [b]).length : Int) := by rw [w64 (by omega), lA]; rfl
     have hsn := ixsB_snoc c 0 b
     rw [Nat.zero_add] at hsn
     cases b with
     | true =>
      rw [if_pos rfl] at hsn
      repeat' (first | refine goR rfl ?_ | refine goS rfl ?_ | refine tret1 rfl ?_ | refine tretN rfl ?_ | refine gY rfl rfl ?_ | refine gN rfl rfl ?_ | refine qT rfl rfl ?_ | refine qF rfl rfl ?_ | refine qT rfl (dT (by omega)) ?_ | refine lT (tl_ixo (m := c.length) rfl rfl rfl hcl) ?_ | refine lT (tl_ldE rfl rfl hbx rfl) ?_ | refine tr_append rfl rfl (by simp only [lM]) (.inr (.inr ⟨_, _, _, _, rfl, rfl, rfl⟩)) (by simp only [List.length_cons, List.length_nil]; omega) rfl ?_ | fail)
      exact again (m' := d.length) (Nat.lt_succ_self _) (w_canon 60 [] [1, 3, 7, 8, 9, 11, 12] hp rfl rfl rfl rfl) ⟨c ++ [true], d, by rw [e3]; simp, rfl, by rw [hw3, hsn, @lA _ (ixsB 0 c)]; rfl, by rw [hsn, List.map_append]; rfl⟩
     | false =>
      rw [if_neg Bool.false_ne_true, List.append_nil] at hsn
      repeat' (first | refine goR rfl ?_ | refine goS rfl ?_ | refine tret1 rfl ?_ | refine tretN rfl ?_ | refine gY rfl rfl ?_ | refine gN rfl rfl ?_ | refine qT rfl rfl ?_ | refine qF rfl rfl ?_ | refine qT rfl (dT (by omega)) ?_ | refine lT (tl_ixo (m := c.length) rfl rfl rfl hcl) ?_ | refine lT (tl_ldE rfl rfl hbx rfl) ?_ | fail)
      exact again (m' := d.length) (Nat.lt_succ_self _) (w_canon 60 [] [1, 3, 7, 8, 9, 11, 12] hp rfl rfl rfl rfl) ⟨c ++ [false], d, by rw [e3]; simp, rfl, by rw [hw3, hsn], by rw [hsn]; rfl⟩
 ·have hfin : R.take k = R := List.take_of_length_le (by omega)
  rw [hfin]
  by_cases h : k < pts.length
  all_goals
   repeat' (first | refine goR rfl ?_ | refine goS rfl ?_ | refine tret1 rfl ?_ | refine tretN rfl ?_ | refine gY rfl rfl ?_ | refine gN rfl rfl ?_ | refine qT rfl rfl ?_ | refine qF rfl rfl ?_ | refine qF rfl (dF (by omega)) ?_ | refine tg_t rfl (dT (by omega)) ?_ | refine tg_f rfl (dF (by omega)) ?_ | fail)
   show Fz _ _ (.lst 1 (R.map fun l => [rwI l]))
   (repeat' first | exact FzL.nil | refine FzL.cons ?_ ?_ | exact Fz.fr rfl | exact Fz.nil _ | exact Fz.s _ _ _ _ _ _ rfl (lM ..).symm | exact Fz.s _ _ _ _ _ _ rfl rfl | refine Fz.pL rfl ?_ | refine Fz.aggL ?_); first | done | fail
end
end Go.Proofs.YtnphhelbianjpaaDoor
namespace Go.Proofs.YtnphhelbianjpaaDoor
set_option maxRecDepth 20000
open Go Go.Proofs.YtnphhelbianjpaaDoor.V Go.Proofs
def longB (l : List ByteArray) : Bool := l.any fun s => decide (60 < s.size)
def greatI (i : Ins) : Bool := if 6 < i.labels.length ∨ 60 < i.to.size then true else longB i.labels
def greatT (t : List Ins) : Bool := if 12 < t.length then true else t.any greatI
def symG (s : Sym) : Bool := decide (60 < s.name.size ∨ 66 < s.init.length)
def greatP (p : Prg) : Bool := if 66 < p.syms.length ∨ 66 < p.threads.length then true else if p.syms.any symG then true else p.threads.any greatT
section
attribute [local irreducible] TwS TwR thenT inBlockT retT
variable {G : World → Prop}
theorem greatI_spec (i : Ins) : Pure prog G 47 [.agg (cIns i)] (tB (greatI i)) := by
 refine Pure.at mixedOk F47 rfl fun C hP hG hp => goF ?_; simp only [F47, targEnv, Nat.zero_add, Nat.reduceAdd]
 have hl : (i.labels.map fun s => [tS s]).length = i.labels.length := lM ..
 by_cases hb : 6 < i.labels.length ∨ 60 < i.to.size
 ·rw [greatI, if_pos hb]
  repeat' (first | refine goR rfl ?_ | refine goS rfl ?_ | refine tret1 rfl ?_ | refine tretN rfl ?_ | refine gY rfl rfl ?_ | refine gN rfl rfl ?_ | refine qT rfl rfl ?_ | refine qF rfl rfl ?_ | ((first | refine gS rfl (fun h => ?_) (fun h => ?_) | refine ts_cond rfl (fun h => ?_) (fun h => ?_)) <;> (try simp only [bs0, beq_iff_eq] at h) <;> try (exfalso; omega; done)) | fail)
  all_goals exact .fr rfl
 rw [greatI, if_neg hb]
 repeat' (first | refine goR rfl ?_ | refine goS rfl ?_ | refine tret1 rfl ?_ | refine tretN rfl ?_ | refine gY rfl rfl ?_ | refine gN rfl rfl ?_ | refine qT rfl rfl ?_ | refine qF rfl rfl ?_ | ((first | refine gS rfl (fun h => ?_) (fun h => ?_) | refine ts_cond rfl (fun h => ?_) (fun h => ?_)) <;> (try simp only [bs0, beq_iff_eq] at h) <;> try (exfalso; omega; done)) | fail)
 refine loopS (fun m env σ => ∃ a b, i.labels = a ++ b ∧ m = b.length ∧ longB i.labels = longB b ∧ env = [(1, .p 0 0), (3, tI a.length)] ∧ σ = ⟨[(0, .cells (cIns i) 54)], 1⟩) i.labels.length ?_ ⟨[], i.labels, rfl, rfl, rfl, rfl, rfl⟩ ?_
 ·(refine w_ren [(0, 0)] rfl (by rw [hp]; intro j hj; cases hj) rfl ?_ ?_ <;> repeat' (first | exact .nil | exact .f _ rfl | exact .s _ _ _ _ _ _ rfl | exact .p _ _ _ rfl | exact .rows _ _ _ | exact .iter _ _ | exact RenL.nil _ | refine RenL.cons ?_ ?_ | refine .cells _ _ _ ?_ | refine .cons _ _ _ _ rfl ?_ ?_ | refine .cons _ _ _ _ _ rfl rfl ?_ ?_ | refine .rowsE ?_ | refine .sE rfl ?_ | exact .m _ _ rfl | refine .fE rfl ?_ | exact RenO.mB _ | exact RenO.mB [] | fail))
 rintro m env σ ⟨a, b, e, rfl, hI, rfl, rfl⟩
 have hla : i.labels.length = a.length + b.length := by rw [e, lA]
 cases b with
 | nil =>
  rw [List.length_nil] at hla
  repeat' (first | refine goR rfl ?_ | refine goS rfl ?_ | refine tret1 rfl ?_ | refine tretN rfl ?_ | refine gY rfl rfl ?_ | refine gN rfl rfl ?_ | refine qT rfl rfl ?_ | refine qF rfl rfl ?_ | refine qF rfl (dF (by rw [lM]; omega)) ?_ | fail)
  rw [hI]
  exact .fr rfl
 | cons x b =>
  have hx : i.labels[a.length]? = some x := by rw [e]; exact ix
  simp only [List.length_cons] at hla
  simp only [longB, List.any_cons] at hI
  repeat' (first | refine goR rfl ?_ | refine goS rfl ?_ | refine tret1 rfl ?_ | refine tretN rfl ?_ | refine gY rfl rfl ?_ | refine gN rfl rfl ?_ | refine qT rfl rfl ?_ | refine qF rfl rfl ?_ | refine qT rfl (dT (by rw [lM]; omega)) ?_ | refine lT (tl_ixm rfl rfl rfl hx) ?_ | ((first | refine gS rfl (fun h => ?_) (fun h => ?_) | refine ts_cond rfl (fun h => ?_) (fun h => ?_)) <;> try simp only [bs0, beq_iff_eq] at h) | fail)
  ·have : longB i.labels = true := by rw [longB, hI, dT (by omega), Bool.true_or]
   rw [this]
   exact .fr rfl
  ·refine again (m' := b.length) (Nat.lt_succ_self _) ?_ ⟨a ++ [x], b, by rw [e]; simp, rfl, by rw [longB, hI, dF (by omega), Bool.false_or]; rfl, rfl, rfl⟩
   (refine w_ren [(0, 0)] rfl (by rw [hp]; intro j hj; cases hj) rfl ?_ ?_ <;> repeat' (first | exact .nil | exact .f _ rfl | exact .s _ _ _ _ _ _ rfl | exact .p _ _ _ rfl | exact .rows _ _ _ | exact .iter _ _ | exact RenL.nil _ | refine RenL.cons ?_ ?_ | refine .cells _ _ _ ?_ | refine .cons _ _ _ _ rfl ?_ ?_ | refine .cons _ _ _ _ _ rfl rfl ?_ ?_ | refine .rowsE ?_ | refine .sE rfl ?_ | exact .m _ _ rfl | refine .fE rfl ?_ | exact RenO.mB _ | exact RenO.mB [] | fail))
   all_goals first | rfl | (rw [w64 (by omega), lA, List.length_singleton]; rfl) | (rw [lA]; rfl) | (rw [List.map_append]; rfl) | rw [lM] | rw [List.append_nil] | skip
theorem greatT_spec (t : List Ins) : Pure prog G 25 [.agg (cTh t)] (tB (greatT t)) := by
 refine Pure.at mixedOk F25 rfl fun C hP hG hp => goF ?_; simp only [F25, targEnv, Nat.zero_add, Nat.reduceAdd]
 have hl : (t.map cIns).length = t.length := lM ..
 by_cases hb : 12 < t.length
 ·rw [greatT, if_pos hb]
  repeat' (first | refine goR rfl ?_ | refine goS rfl ?_ | refine tret1 rfl ?_ | refine tretN rfl ?_ | refine gY rfl rfl ?_ | refine gN rfl rfl ?_ | refine qT rfl rfl ?_ | refine qF rfl rfl ?_ | ((first | refine gS rfl (fun h => ?_) (fun h => ?_) | refine ts_cond rfl (fun h => ?_) (fun h => ?_)) <;> (try simp only [bs0, beq_iff_eq] at h) <;> try (exfalso; omega; done)) | fail)
  all_goals exact .fr rfl
 rw [greatT, if_neg hb]
 repeat' (first | refine goR rfl ?_ | refine goS rfl ?_ | refine tret1 rfl ?_ | refine tretN rfl ?_ | refine gY rfl rfl ?_ | refine gN rfl rfl ?_ | refine qT rfl rfl ?_ | refine qF rfl rfl ?_ | ((first | refine gS rfl (fun h => ?_) (fun h => ?_) | refine ts_cond rfl (fun h => ?_) (fun h => ?_)) <;> (try simp only [bs0, beq_iff_eq] at h) <;> try (exfalso; omega; done)) | fail)
 refine loopS (fun m env σ => ∃ a b, t = a ++ b ∧ m = b.length ∧ t.any greatI = b.any greatI ∧ env = [(1, .p 0 0), (3, tI a.length)] ∧ σ = ⟨[(0, .cells (cTh t) 49)], 1⟩) t.length ?_ ⟨[], t, rfl, rfl, rfl, rfl, rfl⟩ ?_
 ·(refine w_ren [(0, 0)] rfl (by rw [hp]; intro j hj; cases hj) rfl ?_ ?_ <;> repeat' (first | exact .nil | exact .f _ rfl | exact .s _ _ _ _ _ _ rfl | exact .p _ _ _ rfl | exact .rows _ _ _ | exact .iter _ _ | exact RenL.nil _ | refine RenL.cons ?_ ?_ | refine .cells _ _ _ ?_ | refine .cons _ _ _ _ rfl ?_ ?_ | refine .cons _ _ _ _ _ rfl rfl ?_ ?_ | refine .rowsE ?_ | refine .sE rfl ?_ | exact .m _ _ rfl | refine .fE rfl ?_ | exact RenO.mB _ | exact RenO.mB [] | fail))
 rintro m env σ ⟨a, b, e, rfl, hI, rfl, rfl⟩
 have hla : t.length = a.length + b.length := by rw [e, lA]
 cases b with
 | nil =>
  rw [List.length_nil] at hla
  repeat' (first | refine goR rfl ?_ | refine goS rfl ?_ | refine tret1 rfl ?_ | refine tretN rfl ?_ | refine gY rfl rfl ?_ | refine gN rfl rfl ?_ | refine qT rfl rfl ?_ | refine qF rfl rfl ?_ | refine qF rfl (dF (by rw [lM]; omega)) ?_ | fail)
  rw [hI]
  exact .fr rfl
 | cons x b =>
  have hx : t[a.length]? = some x := by rw [e]; exact ix
  simp only [List.length_cons] at hla
  simp only [List.any_cons] at hI
  obtain ⟨g, hg⟩ : ∃ g, g = greatI x := ⟨_, rfl⟩
  have c := fun G => greatI_spec (G := G) x
  rw [← hg] at hI c
  cases g
  ·repeat' (first | refine goR rfl ?_ | refine goS rfl ?_ | refine tret1 rfl ?_ | refine tretN rfl ?_ | refine gY rfl rfl ?_ | refine gN rfl rfl ?_ | refine qT rfl rfl ?_ | refine qF rfl rfl ?_ | refine qT rfl (dT (by rw [lM]; omega)) ?_ | refine lT (tl_ixm rfl rfl rfl hx) ?_ | refine cA rfl (by rw [hP]; exact c _) rfl ?_ | fail)
   refine again (m' := b.length) (Nat.lt_succ_self _) ?_ ⟨a ++ [x], b, by rw [e]; simp, rfl, by rw [hI, Bool.false_or], rfl, rfl⟩
   (refine w_ren [(0, 0)] rfl (by rw [hp]; intro j hj; cases hj) rfl ?_ ?_ <;> repeat' (first | exact .nil | exact .f _ rfl | exact .s _ _ _ _ _ _ rfl | exact .p _ _ _ rfl | exact .rows _ _ _ | exact .iter _ _ | exact RenL.nil _ | refine RenL.cons ?_ ?_ | refine .cells _ _ _ ?_ | refine .cons _ _ _ _ rfl ?_ ?_ | refine .cons _ _ _ _ _ rfl rfl ?_ ?_ | refine .rowsE ?_ | refine .sE rfl ?_ | exact .m _ _ rfl | refine .fE rfl ?_ | exact RenO.mB _ | exact RenO.mB [] | fail))
   all_goals first | rfl | (rw [w64 (by omega), lA, List.length_singleton]; rfl) | (rw [lA]; rfl) | (rw [List.map_append]; rfl) | rw [lM] | rw [List.append_nil] | skip
  ·repeat' (first | refine goR rfl ?_ | refine goS rfl ?_ | refine tret1 rfl ?_ | refine tretN rfl ?_ | refine gY rfl rfl ?_ | refine gN rfl rfl ?_ | refine qT rfl rfl ?_ | refine qF rfl rfl ?_ | refine qT rfl (dT (by rw [lM]; omega)) ?_ | refine lT (tl_ixm rfl rfl rfl hx) ?_ | refine cA rfl (by rw [hP]; exact c _) rfl ?_ | fail)
   rw [hI, Bool.true_or]
   exact .fr rfl
theorem great_spec (p : Prg) : Pure prog G 13 [.agg (cPrg p)] (tB (greatP p)) := by
 refine Pure.at mixedOk F13 rfl fun C hP hG hp => goF ?_; simp only [F13, targEnv, Nat.zero_add, Nat.reduceAdd]
 have hl : (p.syms.map cSym).length = p.syms.length := lM ..
 have hl2 : (p.threads.map cTh).length = p.threads.length := lM ..
 by_cases hb : 66 < p.syms.length ∨ 66 < p.threads.length
 ·rw [greatP, if_pos hb]
  repeat' (first | refine goR rfl ?_ | refine goS rfl ?_ | refine tret1 rfl ?_ | refine tretN rfl ?_ | refine gY rfl rfl ?_ | refine gN rfl rfl ?_ | refine qT rfl rfl ?_ | refine qF rfl rfl ?_ | ((first | refine gS rfl (fun h => ?_) (fun h => ?_) | refine ts_cond rfl (fun h => ?_) (fun h => ?_)) <;> (try simp only [bs0, beq_iff_eq] at h) <;> try (exfalso; omega; done)) | fail)
  all_goals exact .fr rfl
 rw [greatP, if_neg hb]
 repeat' (first | refine goR rfl ?_ | refine goS rfl ?_ | refine tret1 rfl ?_ | refine tretN rfl ?_ | refine gY rfl rfl ?_ | refine gN rfl rfl ?_ | refine qT rfl rfl ?_ | refine qF rfl rfl ?_ | ((first | refine gS rfl (fun h => ?_) (fun h => ?_) | refine ts_cond rfl (fun h => ?_) (fun h => ?_)) <;> (try simp only [bs0, beq_iff_eq] at h) <;> try (exfalso; omega; done)) | fail)
 refine loopS (fun m env σ => ∃ a b, p.syms = a ++ b ∧ m = b.length ∧ p.syms.any symG = b.any symG ∧ env = [(1, .p 0 0), (3, tI a.length)] ∧ σ = ⟨[(0, .cells (cPrg p) 28)], 1⟩) p.syms.length ?_ ⟨[], p.syms, rfl, rfl, rfl, rfl, rfl⟩ ?_
 ·(refine w_ren [(0, 0)] rfl (by rw [hp]; intro j hj; cases hj) rfl ?_ ?_ <;> repeat' (first | exact .nil | exact .f _ rfl | exact .s _ _ _ _ _ _ rfl | exact .p _ _ _ rfl | exact .rows _ _ _ | exact .iter _ _ | exact RenL.nil _ | refine RenL.cons ?_ ?_ | refine .cells _ _ _ ?_ | refine .cons _ _ _ _ rfl ?_ ?_ | refine .cons _ _ _ _ _ rfl rfl ?_ ?_ | refine .rowsE ?_ | refine .sE rfl ?_ | exact .m _ _ rfl | refine .fE rfl ?_ | exact RenO.mB _ | exact RenO.mB [] | fail))
 rintro m env σ ⟨a, b, e, rfl, hI, rfl, rfl⟩
 have hla : p.syms.length = a.length + b.length := by rw [e, lA]
 cases b with
 | cons x b =>
  have hx : p.syms[a.length]? = some x := by rw [e]; exact ix
  simp only [List.length_cons] at hla
  simp only [List.any_cons] at hI
  have hxi : (x.init.map fun n => [tI n]).length = x.init.length := lM ..
  by_cases hs : 60 < x.name.size ∨ 66 < x.init.length
  ·have : symG x = true := dT hs
   rw [this, Bool.true_or] at hI
   rw [if_pos hI]
   repeat' (first | refine goR rfl ?_ | refine goS rfl ?_ | refine tret1 rfl ?_ | refine tretN rfl ?_ | refine gY rfl rfl ?_ | refine gN rfl rfl ?_ | refine qT rfl rfl ?_ | refine qF rfl rfl ?_ | refine qT rfl (dT (by rw [lM]; omega)) ?_ | refine lT (tl_ixm rfl rfl rfl hx) ?_ | ((first | refine gS rfl (fun h => ?_) (fun h => ?_) | refine ts_cond rfl (fun h => ?_) (fun h => ?_)) <;> (try simp only [bs0, beq_iff_eq] at h) <;> try (exfalso; omega; done)) | fail)
   all_goals exact .fr rfl
  ·have : symG x = false := dF hs
   rw [this, Bool.false_or] at hI
   repeat' (first | refine goR rfl ?_ | refine goS rfl ?_ | refine tret1 rfl ?_ | refine tretN rfl ?_ | refine gY rfl rfl ?_ | refine gN rfl rfl ?_ | refine qT rfl rfl ?_ | refine qF rfl rfl ?_ | refine qT rfl (dT (by rw [lM]; omega)) ?_ | refine lT (tl_ixm rfl rfl rfl hx) ?_ | ((first | refine gS rfl (fun h => ?_) (fun h => ?_) | refine ts_cond rfl (fun h => ?_) (fun h => ?_)) <;> (try simp only [bs0, beq_iff_eq] at h) <;> try (exfalso; omega; done)) | fail)
   refine again (m' := b.length) (Nat.lt_succ_self _) ?_ ⟨a ++ [x], b, by rw [e]; simp, rfl, hI, rfl, rfl⟩
   (refine w_ren [(0, 0)] rfl (by rw [hp]; intro j hj; cases hj) rfl ?_ ?_ <;> repeat' (first | exact .nil | exact .f _ rfl | exact .s _ _ _ _ _ _ rfl | exact .p _ _ _ rfl | exact .rows _ _ _ | exact .iter _ _ | exact RenL.nil _ | refine RenL.cons ?_ ?_ | refine .cells _ _ _ ?_ | refine .cons _ _ _ _ rfl ?_ ?_ | refine .cons _ _ _ _ _ rfl rfl ?_ ?_ | refine .rowsE ?_ | refine .sE rfl ?_ | exact .m _ _ rfl | refine .fE rfl ?_ | exact RenO.mB _ | exact RenO.mB [] | fail))
   all_goals first | rfl | (rw [w64 (by omega), lA, List.length_singleton]; rfl) | (rw [lA]; rfl) | (rw [List.map_append]; rfl) | rw [lM] | rw [List.append_nil] | skip
 | nil =>
  rw [List.length_nil] at hla
  rw [List.any_nil] at hI
  rw [if_neg (by rw [hI]; decide)]
  repeat' (first | refine goR rfl ?_ | refine goS rfl ?_ | refine tret1 rfl ?_ | refine tretN rfl ?_ | refine gY rfl rfl ?_ | refine gN rfl rfl ?_ | refine qT rfl rfl ?_ | refine qF rfl rfl ?_ | refine qF rfl (dF (by rw [lM]; omega)) ?_ | fail)
  refine loopS (fun m env σ => ∃ a b, p.threads = a ++ b ∧ m = b.length ∧ p.threads.any greatT = b.any greatT ∧ env = [(1, .p 0 0), (4, tI a.length)] ∧ σ = ⟨[(0, .cells (cPrg p) 28)], 1⟩) p.threads.length ?_ ⟨[], p.threads, rfl, rfl, rfl, rfl, rfl⟩ ?_
  ·(refine w_ren [(0, 0)] rfl (by rw [hp]; intro j hj; cases hj) rfl ?_ ?_ <;> repeat' (first | exact .nil | exact .f _ rfl | exact .s _ _ _ _ _ _ rfl | exact .p _ _ _ rfl | exact .rows _ _ _ | exact .iter _ _ | exact RenL.nil _ | refine RenL.cons ?_ ?_ | refine .cells _ _ _ ?_ | refine .cons _ _ _ _ rfl ?_ ?_ | refine .cons _ _ _ _ _ rfl rfl ?_ ?_ | refine .rowsE ?_ | refine .sE rfl ?_ | exact .m _ _ rfl | refine .fE rfl ?_ | exact RenO.mB _ | exact RenO.mB [] | fail))
  rintro m env σ ⟨a, b, e, rfl, hI, rfl, rfl⟩
  have hla : p.threads.length = a.length + b.length := by rw [e, lA]
  cases b with
  | nil =>
   rw [List.length_nil] at hla
   repeat' (first | refine goR rfl ?_ | refine goS rfl ?_ | refine tret1 rfl ?_ | refine tretN rfl ?_ | refine gY rfl rfl ?_ | refine gN rfl rfl ?_ | refine qT rfl rfl ?_ | refine qF rfl rfl ?_ | refine qF rfl (dF (by rw [lM]; omega)) ?_ | fail)
   rw [hI]
   exact .fr rfl
  | cons x b =>
   have hx : p.threads[a.length]? = some x := by rw [e]; exact ix
   simp only [List.length_cons] at hla
   simp only [List.any_cons] at hI
   obtain ⟨g, hg⟩ : ∃ g, g = greatT x := ⟨_, rfl⟩
   have c := fun G => greatT_spec (G := G) x
   rw [← hg] at hI c
   cases g
   ·repeat' (first | refine goR rfl ?_ | refine goS rfl ?_ | refine tret1 rfl ?_ | refine tretN rfl ?_ | refine gY rfl rfl ?_ | refine gN rfl rfl ?_ | refine qT rfl rfl ?_ | refine qF rfl rfl ?_ | refine qT rfl (dT (by rw [lM]; omega)) ?_ | refine lT (tl_ixm rfl rfl rfl hx) ?_ | refine cA rfl (by rw [hP]; exact c _) rfl ?_ | fail)
    refine again (m' := b.length) (Nat.lt_succ_self _) ?_ ⟨a ++ [x], b, by rw [e]; simp, rfl, by rw [hI, Bool.false_or], rfl, rfl⟩
    (refine w_ren [(0, 0)] rfl (by rw [hp]; intro j hj; cases hj) rfl ?_ ?_ <;> repeat' (first | exact .nil | exact .f _ rfl | exact .s _ _ _ _ _ _ rfl | exact .p _ _ _ rfl | exact .rows _ _ _ | exact .iter _ _ | exact RenL.nil _ | refine RenL.cons ?_ ?_ | refine .cells _ _ _ ?_ | refine .cons _ _ _ _ rfl ?_ ?_ | refine .cons _ _ _ _ _ rfl rfl ?_ ?_ | refine .rowsE ?_ | refine .sE rfl ?_ | exact .m _ _ rfl | refine .fE rfl ?_ | exact RenO.mB _ | exact RenO.mB [] | fail))
    all_goals first | rfl | (rw [w64 (by omega), lA, List.length_singleton]; rfl) | (rw [lA]; rfl) | (rw [List.map_append]; rfl) | rw [lM] | rw [List.append_nil] | skip
   ·repeat' (first | refine goR rfl ?_ | refine goS rfl ?_ | refine tret1 rfl ?_ | refine tretN rfl ?_ | refine gY rfl rfl ?_ | refine gN rfl rfl ?_ | refine qT rfl rfl ?_ | refine qF rfl rfl ?_ | refine qT rfl (dT (by rw [lM]; omega)) ?_ | refine lT (tl_ixm rfl rfl rfl hx) ?_ | refine cA rfl (by rw [hP]; exact c _) rfl ?_ | fail)
    rw [hI, Bool.true_or]
    exact .fr rfl
end
theorem any_no {α : Type} {l : List α} {f : α → Bool} (h : l.any f = false) : ∀ x ∈ l, f x = false := fun x hx => by
 cases hf : f x with
 | false => rfl
 | true => exact absurd (List.any_eq_true.mpr ⟨x, hx, hf⟩) (by rw [h]; decide)
theorem labs_len : ∀ {t : List Ins} {n : Nat}, (∀ i ∈ t, i.labels.length ≤ n) → (allLabs t).length ≤ t.length * n
 | [], _, _ => Nat.zero_le _
 | i :: t, n, h => by
  have h1 := h i (List.mem_cons_self ..)
  have h2 := labs_len (t := t) fun j hj => h j (List.mem_cons_of_mem _ hj)
  simp only [allLabs, List.flatMap_cons, lA, List.length_cons] at h2 ⊢
  rw [Nat.add_mul, Nat.one_mul]
  omega
theorem great_ok {p : Prg} (h : greatP p = false) : okP p := by
 unfold greatP at h
 split at h
 ·cases h
 rename_i h1
 split at h
 ·cases h
 rename_i h2
 have h2 := any_no (Bool.eq_false_iff.mpr h2)
 have h3 := any_no h
 refine ⟨by omega, fun s hs => ?_, by omega, fun t ht => ?_⟩
 ·have := of_decide_eq_false (h2 s hs)
  omega
 ·have h4 := h3 t ht
  unfold greatT at h4
  split at h4
  ·cases h4
  have h5 := any_no h4
  have h6 : ∀ i ∈ t, ¬ (6 < i.labels.length ∨ 60 < i.to.size) ∧ longB i.labels = false := fun i hi => by
   have h7 := h5 i hi
   unfold greatI at h7
   split at h7
   ·cases h7
   ·exact ⟨‹_›, h7⟩
  have h8 := labs_len (n := 6) fun i hi => by have := (h6 i hi).1; omega
  refine ⟨⟨by omega, by omega⟩, fun i hi => ?_⟩
  obtain ⟨h9, h10⟩ := h6 i hi
  refine ⟨by omega, by omega, fun l hl => ?_⟩
  have := of_decide_eq_false (any_no h10 l hl)
  omega
end Go.Proofs.YtnphhelbianjpaaDoor
namespace Go.Proofs.YtnphhelbianjpaaDoor
set_option maxRecDepth 20000
open Go Go.Proofs.YtnphhelbianjpaaDoor.V Go.Proofs
theorem thO_len (many : Nat) (r : List Act) : (thO many r).length ≤ many + 1 := by
 unfold thO
 rw [labS_len]
 unfold baseO
 rw [lA]
 unfold rawO
 rw [lM, List.length_take]
 show _ + 1 ≤ _
 omega
theorem book_s6 (l : List (List Act)) (hl : ∀ r ∈ l, ∀ a ∈ r, inR a.n) : ∃ p, okP p ∧ checkC p = 0 ∧ numsOk p ∧ (∀ G, Pure prog G 5 [cActs l, tI 3, tI 6] (.agg (cPrg p))) ∧ p.threads.length ≤ 3 ∧ stQ p (start0 p) ∧ ∀ t ∈ p.threads, t.length ≤ 7 := by
 obtain ⟨h1, h2⟩ := prog_ok l 3 6 (by decide) (by decide)
 refine ⟨_, h2, h1, prog_nums hl 3 6, fun G => progO_spec l 3 6 (by decide) (by decide), ?_, start_q ?_, ?_⟩
 ·show ((l.take 3).map (thO 6)).length ≤ 3
  rw [lM, List.length_take]; omega
 ·intro v hv
  have hv : v ∈ [(0 : Int), 1, 0, 0] := hv
  have : v = 0 ∨ v = 1 ∨ v = 0 := by simpa using hv
  rcases this with rfl | rfl | rfl <;> (unfold inR; decide)
 ·intro t ht
  have ht : t ∈ (l.take 3).map (thO 6) := ht
  obtain ⟨r, _, rfl⟩ := List.mem_map.1 ht
  exact thO_len 6 r
section
attribute [local irreducible] TwS TwR thenT inBlockT retT nextW localW loadedW swapW scW liftL
set_option maxHeartbeats 20000000 in
theorem liftRaw (p : Prg) (t : Int) : Pure prog Tabs 4 [.agg (cPrg p), tI t] (tB true) := by
 have g1 := fun G => great_spec (G := G) p
 have c3 := aliveL_spec
 cases hg : greatP p with
 | true =>
  rw [hg] at g1
  refine Pure.at mixedOk F4 rfl fun C hP hG hp => goF ?_; simp only [F4, targEnv, Nat.zero_add, Nat.reduceAdd]
  repeat' (first | refine goR rfl ?_ | refine goS rfl ?_ | refine tret1 rfl ?_ | refine tretN rfl ?_ | refine gY rfl rfl ?_ | refine gN rfl rfl ?_ | refine qT rfl rfl ?_ | refine qF rfl rfl ?_ | refine cA rfl (by rw [hP]; exact g1 _) rfl ?_ | refine cA rfl (by rw [hP, hG]; exact c3) rfl ?_ | fail)
  exact .fr rfl
 | false =>
  rw [hg] at g1
  have hop := great_ok hg
  have g3 := check_spec2 p hop
  by_cases hcp : checkC p = 0
  ·rw [hcp] at g3
   refine Pure.at mixedOk F4 rfl fun C hP hG hp => goF ?_; simp only [F4, targEnv, Nat.zero_add, Nat.reduceAdd]
   repeat' (first | refine goR rfl ?_ | refine goS rfl ?_ | refine tret1 rfl ?_ | refine tretN rfl ?_ | refine gY rfl rfl ?_ | refine gN rfl rfl ?_ | refine qT rfl rfl ?_ | refine qF rfl rfl ?_ | refine cA rfl (by rw [hP]; exact g1 _) rfl ?_ | refine cA rfl (by rw [hP, hG]; exact g3) rfl ?_ | refine cA rfl (by rw [hP, hG]; exact c3) rfl ?_ | fail)
   exact .fr rfl
  ·have d1 := nil_at [.agg (cPrg p)] [rwI [t, 0]] 1 (up_no p hop [] (Nat.zero_le _) (.inl hcp) [t, 0])
   generalize checkC p = k at g3 hcp
   refine Pure.at mixedOk F4 rfl fun C hP hG hp => goF ?_; simp only [F4, targEnv, Nat.zero_add, Nat.reduceAdd]
   repeat' (first | refine goR rfl ?_ | refine goS rfl ?_ | refine tret1 rfl ?_ | refine tretN rfl ?_ | refine gY rfl rfl ?_ | refine gN rfl rfl ?_ | refine qT rfl rfl ?_ | refine qF rfl rfl ?_ | refine cA rfl (by rw [hP]; exact g1 _) rfl ?_ | refine cA rfl (by rw [hP, hG]; exact g3) rfl ?_ | refine tr_frzS 15 rfl rfl rfl ?_ | refine cA rfl (by rw [hP, hG]; exact d1) rfl ?_ | refine cA rfl (by rw [hP, hG]; exact c3) rfl ?_ | ((first | refine gS rfl (fun h => ?_) (fun h => ?_) | refine ts_cond rfl (fun h => ?_) (fun h => ?_)) <;> (try simp only [bs0, beq_iff_eq] at h) <;> try (exfalso; omega; done)) | fail)
   all_goals exact .fr rfl
set_option maxHeartbeats 20000000 in
theorem liftGrows (l : List (List Act)) (hl : ∀ r ∈ l, ∀ a ∈ r, inR a.n) (pts : List (List Int)) (steps : List Int) (k : Int) : Pure prog Tabs 3 [cActs l, ptR pts, rwI steps, tI k] (tB true) := by
 obtain ⟨p, ho, hc, hn, c1, h3, hq, h7⟩ := book_s6 l hl
 have cAl := aliveL_spec
 have c2 := greatLists_spec (G := Tabs) pts
 cases hg : greatL pts with
 | true =>
  rw [hg] at c2
  refine Pure.at mixedOk F3 rfl fun C hP hG hp => goF ?_; simp only [F3, targEnv, Nat.zero_add, Nat.reduceAdd]
  repeat' (first | refine goR rfl ?_ | refine goS rfl ?_ | refine tret1 rfl ?_ | refine tretN rfl ?_ | refine gY rfl rfl ?_ | refine gN rfl rfl ?_ | refine qT rfl rfl ?_ | refine qF rfl rfl ?_ | refine cA rfl (by rw [hP]; exact c1 _) rfl ?_ | refine cA rfl (by rw [hP, hG]; exact c2) rfl ?_ | refine cA rfl (by rw [hP, hG]; exact cAl) rfl ?_ | fail)
  exact .fr rfl
 | false =>
  rw [hg] at c2
  obtain ⟨h10, h30⟩ := greatL_no hg
  have hb : ∀ t ∈ p.threads, t.length ≤ 100000 := fun t ht => by have := h7 t ht; omega
  have c3 := points_spec (G := Tabs) p hb pts h10 h30 (by omega)
  obtain ⟨p1, p2, p3⟩ := ptsF_ok pts p.threads hb
  generalize ptsF pts p.threads = R at *
  have hth : (p.threads.map cTh).length = p.threads.length := lM ..
  have c4 := steps_own (G := Tabs) steps (p.threads.map cTh).length 40 (by omega) (by decide)
  have hsl : (stepsF steps (p.threads.map cTh).length 40).length ≤ 40 := by rw [stepsF, lM, List.length_take]; omega
  generalize stepsF steps (p.threads.map cTh).length 40 = row at *
  have hsm : (row.map fun n => [tI n]).length = row.length := lM ..
  have c5 := pick_spec (G := Tabs) k row.length (by omega)
  have hw : IntKind.i64.wrap (((row.map fun n => [tI n]).length : Int) + 1) = ((row.length + 1 : Nat) : Int) := by rw [hsm, w64 (by omega)]; rfl
  have hr1 := Int.emod_nonneg k (show ((row.length + 1 : Nat) : Int) ≠ 0 by omega)
  have hr2 := Int.emod_lt_of_pos k (show (0 : Int) < ((row.length + 1 : Nat) : Int) by omega)
  generalize k % ((row.length + 1 : Nat) : Int) = kk at *
  obtain ⟨j, rfl⟩ : ∃ j : Nat, kk = j := ⟨kk.toNat, by omega⟩
  rw [← hw] at c5
  have hjl : j ≤ row.length := by omega
  have hut := up_spec p ho hc hn hq hb R p2 p3 p1 (row.take j) (by rw [List.length_take]; omega)
  have huf := up_spec p ho hc hn hq hb R p2 p3 p1 row (by omega)
  obtain ⟨z, hz⟩ := lift_app p R (row.take j) (row.drop j)
  rw [List.take_append_drop] at hz
  have hln := lift_len p R row
  rw [hz] at huf hln
  clear hz
  generalize liftL p R (row.take j) = A at *
  have hAm : (A.map cPick).length = A.length := lM ..
  have hBm : ((A ++ z).map cPick).length = A.length + z.length := by rw [lM, lA]
  rw [lA] at hln
  have c6 := samePicks_spec (G := Tabs) A (by omega)
  have hle : decide ((((A ++ z).map cPick).length : Int) ≤ IntKind.i64.wrap (IntKind.i64.wrap (3 * ((row.map fun n => [tI n]).length : Int)) + ((p.threads.map cTh).length : Int))) = true := by
   refine dT ?_
   have hin : IntKind.i64.wrap (3 * (row.length : Int)) = 3 * (row.length : Int) := w64 (by omega)
   rw [hBm, hsm, hth, hin, w64 (by omega)]
   omega
  refine Pure.at mixedOk F3 rfl fun C hP hG hp => goF ?_; simp only [F3, targEnv, Nat.zero_add, Nat.reduceAdd]
  repeat' (first | refine goR rfl ?_ | refine goS rfl ?_ | refine tret1 rfl ?_ | refine tretN rfl ?_ | refine gY rfl rfl ?_ | refine gN rfl rfl ?_ | refine qT rfl rfl ?_ | refine qF rfl rfl ?_ | refine cA rfl (by rw [hP]; exact c1 _) rfl ?_ | refine cA rfl (by rw [hP, hG]; exact c2) rfl ?_ | refine cA rfl (by rw [hP, hG]; exact c3) rfl ?_ | (refine tr_mcallX hP hG (c4) rfl rfl rfl rfl rfl rfl rfl rfl rfl rfl rfl rfl ?_; refine tr_frzS 25 rfl rfl hsm.symm ?_) | refine cA rfl (by rw [hP, hG]; exact c5) rfl ?_ | refine lT (tl_slc (r := (row.take j).map fun n => [tI n]) rfl rfl rfl ⟨by simp only [Option.getD_none]; omega, by simp only [Option.getD_none, Option.getD_some]; omega, by simp only [Option.getD_some]; omega⟩ (by simp only [Option.getD_none, Option.getD_some]; rw [List.map_take]; rfl)) ?_ | refine cA rfl (by rw [hP, hG]; exact hut) rfl ?_ | refine cA rfl (by rw [hP, hG]; exact huf) rfl ?_ | refine tg_t rfl (dT (by omega)) ?_ | refine tg_t rfl hle ?_ | refine lT (tl_slc (r := A.map cPick) rfl rfl rfl ⟨by simp only [Option.getD_none]; omega, by simp only [Option.getD_none, Option.getD_some]; omega, by simp only [Option.getD_some]; omega⟩ (by simp only [Option.getD_none, Option.getD_some]; rw [List.map_append]; exact List.take_left)) ?_ | refine cA rfl (by rw [hP, hG]; exact c6) rfl ?_ | refine cA rfl (by rw [hP, hG]; exact cAl) rfl ?_ | fail)
  exact .fr rfl
end
end Go.Proofs.YtnphhelbianjpaaDoor
