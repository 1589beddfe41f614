/-
  The semantics of trees T: stores, appends, calls.
-/
import Derived.Test.YtnphhelbianjpaaGreatDoorVE
set_option linter.all false
set_option linter.unusedSimpArgs false
set_option linter.unusedVariables false
set_option linter.unnecessarySimpa false
namespace Go.Proofs.YtnphhelbianjpaaGreatDoor.V
open Go Go.RowKit

def keepT (env : TEnv) (σ : TS) (k lo hi : Nat) : LOp → Bool
 | .ld n agg x => match tO env x with
  | some (.fp cs o) => (cutT agg n o cs).isSome
  | some (.p j o) => match σ.get j with
   | some (.cells cs _) => (cutT agg n o cs).isSome && (!(Nat.beq j k) || (Nat.ble (o + n) lo || Nat.ble hi o))
   | _ => false
  | some (.e j sz i off) => match σ.get j with
   | some (.cells cs _) => (cutT agg n (i * sz + off) cs).isSome && !(Nat.beq j k)
   | some (.rows _ _ _) => !(Nat.beq j k)
   | _ => false
  | some (.tup _) => true
  | _ => false
 | _ => false

def keepAllT (env : TEnv) (σ : TS) (k lo hi : Nat) : List LOp → Bool
 | [] => true
 | l :: r => bif keepT env σ k lo hi l then keepAllT env σ k lo hi r else false

section
variable {P : Program} {w0 : World} {env : TEnv} {σ : TS}

theorem cutT_pos {agg : Bool} {n o : Nat} {cs : List TV} {r : TV} (h : cutT agg n o cs = some r) : 0 < n := by
 unfold cutT at h
 split at h
 ·omega
 ·omega
 ·cases h

theorem keep_sound {venv : Env} {st st' : St} {Φ : Nat → Prop} {ν : Nu} (hs : TSim w0 st Φ ν σ) (he : TE w0 st Φ ν env venv) {k lo hi : Nat} (hk : (σ.get k).isSome = true ∨ ν k = none)
  (h1 : ∀ c, c < st.next → ν k ≠ some (some c) → st'.blk c = st.blk c)
  (h2 : ∀ b o n, (∃ cs ty, σ.get k = some (.cells cs ty)) → 0 < n → (o + n ≤ lo ∨ hi ≤ o) → ν k = some (some b) → cellsAt w0 st ⟨b, o, none⟩ n ≠ none → cellsAt w0 st' ⟨b, o, none⟩ n = cellsAt w0 st ⟨b, o, none⟩ n) {l : LOp} (hl : keepT env σ k lo hi l = true) :
  ∀ u, l.eval P w0 venv st = some u → l.eval P w0 venv st' = some u := by
 have same : ∀ {l : LOp}, l.eval P w0 venv st' = l.eval P w0 venv st → ∀ u, l.eval P w0 venv st = some u → l.eval P w0 venv st' = some u := fun h u hu => by rw [h]; exact hu
 cases l with
 | ld n agg x =>
  simp only [keepT] at hl
  split at hl
  ·rename_i cs o hx
   obtain ⟨r, hr⟩ := Option.isSome_iff_exists.1 hl
   obtain ⟨v, e1, e2⟩ := tev_sound (P := P) (l := .ld n agg x) (show tev env σ (.ld n agg x) = some r by simp only [tev, hx]; exact hr) venv st Φ ν hs he
   refine same ?_
   obtain ⟨_, e3, e4⟩ := tO_sound he hx
   obtain ⟨b', o', vs, rfl, f1, f2, f3⟩ := e4.fp_inv
   simp only [LOp.eval, e3]
   rw [cellsAt_block]
   intro hb'
   simp only at hb' ⊢
   rcases f1 with h | h
   ·omega
   ·exact h1 _ (hs.fro _ h) (fun e => hk.elim (fun hk => hs.npf k _ hk e h) fun hk => by rw [hk] at e; cases e)
  ·rename_i j o hx
   split at hl
   ·rename_i cs ty hj
    rw [Bool.and_eq_true] at hl
    obtain ⟨hl1, hl2⟩ := hl
    obtain ⟨r, hr⟩ := Option.isSome_iff_exists.1 hl1
    obtain ⟨v, e1, e2⟩ := tev_sound (P := P) (l := .ld n agg x) (show tev env σ (.ld n agg x) = some r by simp only [tev, hx, hj]; exact hr) venv st Φ ν hs he
    refine same ?_
    obtain ⟨_, e3, e4⟩ := tO_sound he hx
    obtain ⟨b', f1, rfl⟩ := e4.p_inv
    simp only [LOp.eval, e3] at e1 ⊢
    by_cases hjk : j = k
    ·subst hjk
     rw [h2 b' o n ⟨_, _, hj⟩ (cutT_pos hr) ?_ f1 ?_]
     ·simp only [Nat.beq_refl, Bool.not_true, Bool.false_or, Bool.or_eq_true, Nat.ble_eq] at hl2
      exact hl2
     ·intro hn; rw [hn] at e1; cases e1
    ·rw [cellsAt_block]
     intro _
     simp only
     refine h1 _ (hs.lt f1).2 (fun e => ?_)
     exact hk.elim (fun hk => hjk (hs.inj j k b' (by rw [hj]; rfl) hk f1 e)) fun hk => by rw [hk] at e; cases e
   ·cases hl
  ·rename_i j sz i off hx
   split at hl
   ·rename_i cs ty hj
    rw [Bool.and_eq_true] at hl
    obtain ⟨hl1, hl2⟩ := hl
    refine same ?_
    obtain ⟨_, e3, e4⟩ := tO_sound he hx
    obtain ⟨b', f1, rfl⟩ := e4.e_inv
    simp only [LOp.eval, e3]
    have hjk : j ≠ k := by intro e; subst e; simp at hl2
    rw [cellsAt_block]
    intro _
    simp only
    refine h1 _ (hs.lt f1).2 (fun e => ?_)
    exact hk.elim (fun hk => hjk (hs.inj j k b' (by rw [hj]; rfl) hk f1 e)) fun hk => by rw [hk] at e; cases e
   ·rename_i sz' xs ty hj
    refine same ?_
    obtain ⟨_, e3, e4⟩ := tO_sound he hx
    obtain ⟨b', f1, rfl⟩ := e4.e_inv
    simp only [LOp.eval, e3]
    have hjk : j ≠ k := by intro e; subst e; simp at hl
    rw [cellsAt_block]
    intro _
    simp only
    refine h1 _ (hs.lt f1).2 (fun e => ?_)
    exact hk.elim (fun hk => hjk (hs.inj j k b' (by rw [hj]; rfl) hk f1 e)) fun hk => by rw [hk] at e; cases e
   ·cases hl
  ·rename_i vs hx
   intro u hu
   obtain ⟨_, e3, e4⟩ := tO_sound he hx
   obtain ⟨vs, rfl, _⟩ := e4.tup_inv
   simp only [LOp.eval, e3] at hu
   cases hu
  ·cases hl
 | _ => cases hl

theorem keepAll_sound {venv : Env} {st st' : St} {Φ : Nat → Prop} {ν : Nu} (hs : TSim w0 st Φ ν σ) (he : TE w0 st Φ ν env venv) {k lo hi : Nat} (hk : (σ.get k).isSome = true ∨ ν k = none)
  (h1 : ∀ c, c < st.next → ν k ≠ some (some c) → st'.blk c = st.blk c)
  (h2 : ∀ b o n, (∃ cs ty, σ.get k = some (.cells cs ty)) → 0 < n → (o + n ≤ lo ∨ hi ≤ o) → ν k = some (some b) → cellsAt w0 st ⟨b, o, none⟩ n ≠ none → cellsAt w0 st' ⟨b, o, none⟩ n = cellsAt w0 st ⟨b, o, none⟩ n) : ∀ {ks : List LOp}, keepAllT env σ k lo hi ks = true →
  ∀ l ∈ ks, ∀ u, l.eval P w0 venv st = some u → l.eval P w0 venv st' = some u
 | [], _, l, hl => by cases hl
 | x :: r, h, l, hl => by
  simp only [keepAllT] at h
  cases hx : keepT env σ k lo hi x with
  | false => simp [hx] at h
  | true =>
   simp only [hx, cond_true] at h
   rcases List.mem_cons.1 hl with rfl | hl
   ·exact keep_sound hs he hk h1 h2 hx
   ·exact keepAll_sound hs he hk h1 h2 h l hl
end

section
variable {C : Cx} {K : TK} {env : TEnv} {σ : TS} {rest : List ROp} {d : Option Nat} {q : Bool} {ks : List LOp}

theorem RelT.set {venv : Env} {st : St} {Φ : Nat → Prop} {ν : Nu} (hr : RelT C env σ venv st Φ ν) {k b : Nat} {o o' : TObj} {bk : Blk} (hk : σ.get k = some o) (hb : ν k = some (some b)) (hc : CRel C.w0 st Φ ν o' bk) :
  RelT C env (σ.set k o') venv (st.set b bk) Φ ν := by
 have hn := hr.sim.npf k b (by rw [hk]; rfl) hb
 have hs : ∀ c, Φ c → (st.set b bk).blk c = st.blk c := fun c hc => set_ne _ _ (fun e => hn (e ▸ hc))
 refine ⟨hr.sim.set hk hb hc, hr.env.stable (fun _ h => h) hs (fun _ _ h => h), hr.next, ?_, hr.mine, hr.pin, hr.phi0, hr.phi⟩
 intro c hc hl
 rw [set_ne _ _ (fun e => ?_)]
 ·exact hr.frame c hc hl
 ·subst e
  rcases hr.mine k c hb with h | h
  ·exact hl h
  ·omega

theorem list_off {α : Type} {vs ys : List α} {lo hi o n : Nat} (hl : lo ≤ vs.length) (hh : hi = lo + ys.length) (h : o + n ≤ lo ∨ hi ≤ o) : ((vs.take lo ++ ys ++ vs.drop hi).drop o).take n = (vs.drop o).take n := by
 have hlen : (vs.take lo).length = lo := by simp; omega
 rcases h with h | h
 ·rw [List.append_assoc, List.drop_append_of_le_length (by omega), List.take_append_of_le_length (by simp; omega), List.drop_take, List.take_take, Nat.min_eq_left (by omega)]
 ·rw [List.drop_append, lA, hlen, List.drop_eq_nil_of_le (by simp; omega), List.nil_append, List.drop_drop]
  congr 2; omega

theorem tr_store {n : Nat} {x v : Operand} {k off : Nat} {cs ys r : List TV} {ty : TypeId} {a : TV} (hx : tO env x = some (.p k off)) (hk : σ.get k = some (.cells cs ty)) (hv : tO env v = some a) (ha : cellsT a = some ys) (hn : Nat.beq ys.length n = true)
  (hr : putAt off ys cs = some r) (hks : keepAllT env σ k off (off + n) ks = true) (h : TwR C rest K (putT d tundef env) (σ.set k (.cells r ty))) : TwR C (⟨d, none, .heavy (.store n x v), q, ks⟩ :: rest) K env σ := by
 intro venv st Φ ν hrel
 refine ⟨fun _ => ?_, fun h => by simp at h⟩
 obtain ⟨_, h1, h2⟩ := tO_sound hrel.env hx
 obtain ⟨b, hb, rfl⟩ := h2.p_inv
 obtain ⟨va, h3, h4⟩ := tO_sound hrel.env hv
 obtain ⟨vy, h5, h6⟩ := cellsT_sound ha h4
 obtain ⟨rfl, hle⟩ := putAt_some hr
 have hn' := Nat.eq_of_beq_eq_true hn
 rcases hrel.sim.has hk with ⟨q1, _, _, q2⟩ | ⟨b', bk, q1, q2, q3⟩
 ·cases q2
 ·rw [hb] at q1; cases q1
  cases bk with
  | cells vs ty' =>
   obtain ⟨rfl, q4⟩ := q3
   have hl := q4.len
   have hl6 := h6.len
   have he : (HOp.store n x v).eval C.w0 venv st = some (undef, st.set b (.cells (vs.take off ++ vy ++ vs.drop (off + n)) ty')) := by
    simp only [HOp.eval, h1, h3, Option.bind_some, h5, q2]
    rw [if_pos ⟨trivial, by omega⟩, if_pos (by omega)]
   simp only [COp.step, he]
   refine ⟨keepAll_sound hrel.sim hrel.env (.inl (by rw [hk]; rfl)) (fun c _ hc => set_ne _ _ (fun e => hc (e ▸ hb))) (fun c o m hcs hm ho hc hcell => ?_) hks, ?_⟩
   ·rw [hb] at hc; cases hc
    have hnb : ¬ b < C.w0.heap.size := by have := (hrel.sim.lt hb).1; omega
    have hall : o + m ≤ vs.length := by
     unfold cellsAt cellsOf at hcell
     simp only [if_neg hnb, q2] at hcell
     by_cases hq : o + m ≤ vs.length
     ·exact hq
     ·simp [hq] at hcell
    have hlen2 : (vs.take off ++ vy ++ vs.drop (off + n)).length = vs.length := by simp; omega
    rw [cellsAt_mine (by omega) q2 hall, cellsAt_mine (by omega) (set_eq _ _ _) (by omega), list_off (by omega) (by omega) ho]
   ·have hcr : CRel C.w0 st Φ ν (.cells (cs.take off ++ ys ++ cs.drop (off + ys.length)) ty') (.cells (vs.take off ++ vy ++ vs.drop (off + n)) ty') := by
     refine ⟨rfl, ?_⟩
     rw [← hn']
     exact ((q4.take off).append h6).append (q4.drop _)
    exact h _ _ _ _ (RelT.putO (hrel.set hk hb hcr) rel_undef d)
  | _ => exact q3.elim

theorem tr_storeE {n : Nat} {x v : Operand} {k sz i off : Nat} {xs : List (List TV)} {c ys r : List TV} {ty : TypeId} {a : TV} (hx : tO env x = some (.e k sz i off)) (hk : σ.get k = some (.rows sz xs ty)) (hc : xs[i]? = some c)
  (hv : tO env v = some a) (ha : cellsT a = some ys) (hf : frozL ys = true) (hn : Nat.beq ys.length n = true) (hr : putAt off ys c = some r) (hks : keepAllT env σ k 0 1000000000000000000000000000000000000 ks = true)
  (h : TwR C rest K (putT d tundef env) (σ.set k (.rows sz (xs.set i r) ty))) : TwR C (⟨d, none, .heavy (.store n x v), q, ks⟩ :: rest) K env σ := by
 intro venv st Φ ν hrel
 refine ⟨fun _ => ?_, fun h => by simp at h⟩
 obtain ⟨_, h1, h2⟩ := tO_sound hrel.env hx
 obtain ⟨b, hb, rfl⟩ := h2.e_inv
 obtain ⟨va, h3, h4⟩ := tO_sound hrel.env hv
 obtain ⟨vy, h5, h6⟩ := cellsT_sound ha h4
 obtain ⟨rfl, hle⟩ := putAt_some hr
 have hn' := Nat.eq_of_beq_eq_true hn
 rcases hrel.sim.has hk with ⟨q1, _, _, q2⟩ | ⟨b', bk, q1, q2, q3⟩
 ·rw [hb] at q1; cases q1
 ·rw [hb] at q1; cases q1
  cases bk with
  | cells vs ty' =>
   obtain ⟨rfl, q4, q5, q6⟩ := q3
   have hl := q6.len
   have hl6 := h6.len
   have hcl : c.length = sz := q4 c (List.mem_of_getElem? hc)
   obtain ⟨r1, r2⟩ := flat_row q4 hc
   have he : (HOp.store n x v).eval C.w0 venv st = some (undef, st.set b (.cells (vs.take (i * sz + off) ++ vy ++ vs.drop (i * sz + off + n)) ty')) := by
    simp only [HOp.eval, h1, h3, Option.bind_some, h5, q2]
    rw [if_pos ⟨trivial, by omega⟩, if_pos (by omega)]
   simp only [COp.step, he]
   refine ⟨keepAll_sound hrel.sim hrel.env (.inl (by rw [hk]; rfl)) (fun c _ hc => set_ne _ _ (fun e => hc (e ▸ hb))) (fun c o m hcs hm ho hc hcell => ?_) hks, ?_⟩
   ·obtain ⟨_, _, hcs⟩ := hcs
    rw [hk] at hcs; cases hcs
   ·have hcr : CRel C.w0 st Φ ν (.rows sz (xs.set i (c.take off ++ ys ++ c.drop (off + ys.length))) ty') (.cells (vs.take (i * sz + off) ++ vy ++ vs.drop (i * sz + off + n)) ty') := by
     refine ⟨rfl, ?_, by rw [List.length_set]; exact q5, ?_⟩
     ·intro y hy
      rcases List.mem_or_eq_of_mem_set hy with hy | rfl
      ·exact q4 y hy
      ·simp; omega
     ·rw [flat_put q4 hc (by omega), ← hn']
      have hq6 := q6
      have hF := frozL_rel hf h6
      refine ⟨by simp only [lA, List.length_take, List.length_drop]; omega, fun j y z hy hz => ?_⟩
      have l1 : (xs.flatten.take (i * sz + off)).length = i * sz + off := by rw [List.length_take]; omega
      have l2 : (vs.take (i * sz + off)).length = i * sz + off := by rw [List.length_take]; omega
      rw [List.append_assoc, List.getElem?_append] at hy hz
      rw [l1] at hy
      rw [l2] at hz
      split at hy
      ·rename_i hj
       rw [if_pos hj, List.getElem?_take, if_pos hj] at hz
       rw [List.getElem?_take, if_pos hj] at hy
       exact q6.rel j y z hy hz
      ·rename_i hj
       rw [if_neg hj, List.getElem?_append] at hz
       rw [List.getElem?_append] at hy
       split at hy
       ·rename_i hj2
        rw [if_pos (by omega)] at hz
        exact hF.rel _ y z hy hz
       ·rename_i hj2
        rw [if_neg (by omega), ← hl6, List.getElem?_drop] at hz
        rw [List.getElem?_drop] at hy
        exact q6.rel _ y z hy hz
    exact h _ _ _ _ (RelT.putO (hrel.set hk hb hcr) rel_undef d)
  | _ => exact q3.elim
end
end Go.Proofs.YtnphhelbianjpaaGreatDoor.V
namespace Go.Proofs.YtnphhelbianjpaaGreatDoor.V
open Go Go.RowKit

def SrcT (env : TEnv) (σ : TS) (x : Operand) (sz : Nat) (ys : List (List TV)) : Prop :=
 tO env x = some (.lst sz ys) ∨ (tO env x = some (.v (.slice none 0 0)) ∧ ys = []) ∨ ∃ k ty c n, tO env x = some (.s k sz 0 n c) ∧ σ.get k = some (.rows sz ys ty) ∧ n = ys.length

section
variable {w0 : World} {env : TEnv} {σ : TS} {st : St} {Φ : Nat → Prop} {ν : Nu}

theorem src_sound {venv : Env} (hs : TSim w0 st Φ ν σ) (he : TE w0 st Φ ν env venv) {x : Operand} {sz : Nat} {ys : List (List TV)} (h : SrcT env σ x sz ys) :
  ∃ v vy, evalO venv x = some v ∧ newCells w0 st sz v = some (ys.length, vy) ∧ RelF w0 st Φ ys.flatten vy ∧ ∀ y ∈ ys, y.length = sz := by
 rcases h with h | ⟨h, rfl⟩ | ⟨k, ty, c, n, h, hk, rfl⟩
 ·obtain ⟨v, h1, h2⟩ := tO_sound he h
  cases h2.lst_inv with
  | lst _ _ a n c vs e1 e2 e3 e4 e5 e6 e7 e8 =>
   subst e1
   by_cases hy : ys = []
   ·subst hy
    refine ⟨_, [], h1, ?_, ⟨rfl, by simp⟩, e6⟩
    cases a <;> simp [newCells]
   ·obtain ⟨b, o, rfl, hf, hv⟩ := e7 hy
    have hl : ys.length ≠ 0 := fun h => hy (List.length_eq_zero_iff.1 h)
    refine ⟨_, vs, h1, ?_, ⟨by rw [flat_len e6, (cellsAt_info hv).2], e8⟩, e6⟩
    simp only [newCells, if_neg hl, hv, Option.map_some]
 ·obtain ⟨v, h1, h2⟩ := tO_sound he h
  obtain ⟨rfl, _⟩ := h2.v_inv
  exact ⟨_, [], h1, rfl, ⟨rfl, by simp⟩, by simp⟩
 ·obtain ⟨v, h1, h2⟩ := tO_sound he h
  rcases hs.has hk with ⟨q1, _, _, q2⟩ | ⟨b', bk, q1, q2, q3⟩
  ·cases q2
   rcases h2.s_inv with ⟨_, _, _, rfl⟩ | ⟨b, hb, rfl⟩
   ·exact ⟨_, [], h1, rfl, ⟨rfl, by simp⟩, by simp⟩
   ·rw [q1] at hb; cases hb
  ·rcases h2.s_inv with ⟨hb, _, _, rfl⟩ | ⟨b, hb, rfl⟩
   ·rw [q1] at hb; cases hb
   ·rw [q1] at hb; cases hb
    cases bk with
    | cells vs ty' =>
     obtain ⟨rfl, q4, q5, q6⟩ := q3
     by_cases hy : ys.length = 0
     ·have hy' := List.length_eq_zero_iff.1 hy
      subst hy'
      exact ⟨_, [], h1, by simp [newCells], ⟨rfl, by simp⟩, by simp⟩
     ·refine ⟨_, vs, h1, ?_, q6, q4⟩
      have hl := q6.len
      rw [flat_len q4] at hl
      simp only [newCells, if_neg hy]
      rw [cellsAt_mine (hs.lt q1).1 q2 (by omega)]
      simp only [Nat.zero_mul, List.drop_zero, Option.map_some, Option.some.injEq, Prod.mk.injEq, true_and]
      exact List.take_of_length_le (by omega)
    | _ => exact q3.elim

theorem TSim.move (h : TSim w0 st Φ ν σ) {k : Nat} {o : TObj} {r : Option Nat} (hk : σ.get k = some o) (hr : ν k = some r) : TSim w0 st Φ (upN ν σ.next r) ((σ.del k).alloc o) := by
 have hd := h.dom σ.next (Nat.le_refl _)
 have hx := upN_ext hd r
 have hkn : k ≠ σ.next := by rintro rfl; rw [hd] at hr; cases hr
 have hnext : (σ.del k).next = σ.next := rfl
 have key : ∀ i, (((σ.del k).alloc o).get i).isSome = true → (i = σ.next ∨ (i ≠ k ∧ i ≠ σ.next ∧ (σ.get i).isSome = true)) := by
  intro i hi
  rw [TS.get_alloc, hnext] at hi
  by_cases e : i = σ.next
  ·exact .inl e
  ·rw [if_neg e, TS.get_del] at hi
   split at hi
   ·cases hi
   ·exact .inr ⟨by assumption, e, hi⟩
 refine ⟨h.ok, ?_, ?_, ?_, h.fro, ?_, ?_⟩
 ·intro i j c h1 h2 h3 h4
  rcases key i h1 with rfl | ⟨a1, a2, a3⟩ <;> rcases key j h2 with rfl | ⟨b1, b2, b3⟩
  ·rfl
  ·rw [upN_self] at h3
   rw [upN_ne _ _ b2] at h4
   cases h3
   exact absurd (h.inj j k c b3 (by rw [hk]; rfl) h4 hr) b1
  ·rw [upN_self] at h4
   rw [upN_ne _ _ a2] at h3
   cases h4
   exact absurd (h.inj i k c a3 (by rw [hk]; rfl) h3 hr) a1
  ·rw [upN_ne _ _ a2] at h3
   rw [upN_ne _ _ b2] at h4
   exact h.inj i j c a3 b3 h3 h4
 ·intro i c hi
  by_cases e : i = σ.next
  ·subst e; rw [upN_self] at hi; cases hi; exact h.own k c hr
  ·rw [upN_ne _ _ e] at hi; exact h.own i c hi
 ·intro i c h1 h2
  rcases key i h1 with rfl | ⟨a1, a2, a3⟩
  ·rw [upN_self] at h2; cases h2; exact h.npf k c (by rw [hk]; rfl) hr
  ·rw [upN_ne _ _ a2] at h2; exact h.npf i c a3 h2
 ·intro i hi
  have : σ.next + 1 ≤ i := hi
  rw [upN_ne _ _ (by omega)]
  exact h.dom i (by omega)
 ·intro i o' hi
  rw [TS.get_alloc, hnext] at hi
  by_cases e : i = σ.next
  ·subst e
   rw [if_pos rfl] at hi; cases hi
   rw [upN_self]
   have := h.obj k o hk
   rw [hr] at this
   cases r with
   | none => exact this
   | some c =>
    obtain ⟨bk, h1, h2⟩ := this
    exact ⟨bk, h1, h2.stable (fun _ h => h) (fun _ _ => rfl) hx⟩
  ·rw [if_neg e, TS.get_del] at hi
   split at hi
   ·cases hi
   ·rw [upN_ne _ _ e]
    rcases h.has hi with ⟨h1, h2⟩ | ⟨c, bk', h1, h2, h3⟩
    ·rw [h1]; exact h2
    ·rw [h1]
     exact ⟨bk', h2, h3.stable (fun _ h => h) (fun _ _ => rfl) hx⟩
end

section
variable {C : Cx} {K : TK} {env : TEnv} {σ : TS} {rest : List ROp} {d : Nat} {q : Bool} {ks : List LOp}

theorem RelT.kill {venv : Env} {st : St} {Φ : Nat → Prop} {ν : Nu} (hr : RelT C env σ venv st Φ ν) {k b : Nat} {o : TObj} (hk : σ.get k = some o) (hb : ν k = some (some b)) : RelT C env (σ.del k) venv (st.kill b) Φ ν := by
 have hn := hr.sim.npf k b (by rw [hk]; rfl) hb
 have hs : ∀ c, Φ c → (st.kill b).blk c = st.blk c := fun c hc => kill_ne _ (fun e => hn (e ▸ hc))
 refine ⟨(hr.sim.drop k).kill hn ?_, hr.env.stable (fun _ h => h) hs (fun _ _ h => h), hr.next, ?_, hr.mine, hr.pin, hr.phi0, hr.phi⟩
 ·intro j hj e
  rw [TS.get_del] at hj
  split at hj
  ·cases hj
  ·rename_i hne
   exact hne (hr.sim.inj j k b hj (by rw [hk]; rfl) e hb)
 ·intro c hc hl
  rw [kill_ne _ (fun e => ?_)]
  ·exact hr.frame c hc hl
  ·subst e
   rcases hr.mine k c hb with h | h
   ·exact hl h
   ·omega

theorem RelT.move {venv : Env} {st : St} {Φ : Nat → Prop} {ν : Nu} (hr : RelT C env σ venv st Φ ν) {k : Nat} {o : TObj} {r : Option Nat} (hk : σ.get k = some o) (hb : ν k = some r) : RelT C env ((σ.del k).alloc o) venv st Φ (upN ν σ.next r) := by
 have hx := upN_ext (hr.sim.dom σ.next (Nat.le_refl _)) r
 refine ⟨hr.sim.move hk hb, hr.env.stable (fun _ h => h) (fun _ _ => rfl) hx, hr.next, hr.frame, ?_, hr.pinN _, hr.phi0, hr.phi⟩
 intro j c hj
 by_cases e : j = σ.next
 ·subst e; rw [upN_self] at hj; cases hj; exact hr.mine k c hb
 ·rw [upN_ne _ _ e] at hj; exact hr.mine j c hj

theorem RelT.virt {venv : Env} {st : St} {Φ : Nat → Prop} {ν : Nu} (hr : RelT C env σ venv st Φ ν) (sz : Nat) (ty : TypeId) : RelT C env (σ.alloc (.rows sz [] ty)) venv st Φ (upN ν σ.next none) := by
 have hx := upN_ext (hr.sim.dom σ.next (Nat.le_refl _)) none
 refine ⟨hr.sim.virt sz ty, hr.env.stable (fun _ h => h) (fun _ _ => rfl) hx, hr.next, hr.frame, ?_, hr.pinN _, hr.phi0, hr.phi⟩
 intro j c hj
 by_cases e : j = σ.next
 ·subst e; rw [upN_self] at hj; cases hj
 ·rw [upN_ne _ _ e] at hj; exact hr.mine j c hj

theorem flat_app {w0 : World} {st : St} {Φ : Nat → Prop} {a b : List TV} {x y : List Value} (h : RelF w0 st Φ a x) (k : RelF w0 st Φ b y) : RelF w0 st Φ (a ++ b) (x ++ y) := by
 refine ⟨by simp [h.len, k.len], fun i p r hx hy => ?_⟩
 rw [List.getElem?_append] at hx hy
 split at hx
 ·rename_i hi
  rw [if_pos (by rw [← h.len]; exact hi)] at hy
  exact h.rel i p r hx hy
 ·rename_i hi
  rw [if_neg (by rw [← h.len]; exact hi), ← h.len] at hy
  exact k.rel _ p r hx hy

theorem keep_alloc {P : Program} {w0 : World} {venv : Env} {st : St} {Φ : Nat → Prop} {ν : Nu} (hs : TSim w0 st Φ ν σ) (he : TE w0 st Φ ν env venv) (hks : keepAllT env σ σ.next 0 0 ks = true) (bk : Blk) :
  ∀ l ∈ ks, ∀ u, l.eval P w0 venv st = some u → l.eval P w0 venv (st.alloc bk) = some u :=
 keepAll_sound hs he (.inr (hs.dom _ (Nat.le_refl _))) (fun c hc _ => alloc_ne _ _ (Nat.ne_of_lt hc)) (fun b o n _ _ _ hn => by rw [hs.dom _ (Nat.le_refl _)] at hn; cases hn) hks

theorem tr_append0 {ty : TypeId} {sz bytes : Nat} {s x : Operand} {ys : List (List TV)} (hs : tO env s = some (.v (.slice none 0 0))) (hx : SrcT env σ x sz ys) (hb : ys.length * bytes ≤ 140737488355328 ∧ ys.length < 9223372036854775807)
  (hks : keepAllT env σ σ.next 0 0 ks = true) (h : TwR C rest K ((d, .s σ.next sz 0 ys.length true) :: env) (σ.alloc (.rows sz ys ty))) : TwR C (⟨some d, none, .heavy (.append ty sz bytes s x), q, ks⟩ :: rest) K env σ := by
 intro venv st Φ ν hr
 refine ⟨fun _ => ?_, fun h => by simp at h⟩
 obtain ⟨_, h1, h2⟩ := tO_sound hr.env hs
 obtain ⟨rfl, _⟩ := h2.v_inv
 obtain ⟨v, vy, h3, h4, h5, h6⟩ := src_sound hr.sim hr.env hx
 by_cases hm : ys.length = 0
 ·have he : (HOp.append ty sz bytes s x).eval C.w0 venv st = some (.slice none 0 0, st) := by
   simp only [HOp.eval, h1, h3, h4, appendV]
   rw [if_pos ⟨trivial, trivial, hb⟩, if_pos hm]
  simp only [COp.step, he]
  refine ⟨fun _ _ _ h => h, ?_⟩
  have hy := List.length_eq_zero_iff.1 hm
  subst hy
  exact h _ _ _ _ ((hr.virt sz ty).put (.sn _ _ _ (upN_self ..)) d)
 ·have he : (HOp.append ty sz bytes s x).eval C.w0 venv st = some (.slice (some ⟨st.next, 0, none⟩) ys.length sz, st.alloc (.cells vy ty)) := by
   simp only [HOp.eval, h1, h3, h4, appendV]
   rw [if_pos ⟨trivial, trivial, hb⟩, if_neg hm]
  simp only [COp.step, he]
  refine ⟨keep_alloc hr.sim hr.env hks _, ?_⟩
  have hcr : CRel C.w0 st Φ ν (.rows sz ys ty) (.cells vy ty) := ⟨rfl, h6, by omega, h5⟩
  refine h _ _ _ _ ((hr.alloc hcr).put ?_ d)
  have := TRel.s (w0 := C.w0) (st := st.alloc (.cells vy ty)) (Φ := Φ) (ν := upN ν σ.next (some st.next)) σ.next sz 0 ys.length true st.next (upN_self ..)
  rwa [Nat.zero_mul] at this

theorem tr_append {ty : TypeId} {sz bytes : Nat} {s x : Operand} {k n : Nat} {xs ys : List (List TV)} (hs : tO env s = some (.s k sz 0 n true)) (hk : σ.get k = some (.rows sz xs ty)) (hn : n = xs.length) (hx : SrcT env σ x sz ys)
  (hb : (n + ys.length) * bytes ≤ 140737488355328 ∧ n + ys.length < 9223372036854775807) (hks : keepAllT env σ k 0 0 ks = true)
  (h : TwR C rest K ((d, .s σ.next sz 0 (n + ys.length) true) :: env) ((σ.del k).alloc (.rows sz (xs ++ ys) ty))) : TwR C (⟨some d, none, .heavy (.append ty sz bytes s x), q, ks⟩ :: rest) K env σ := by
 intro venv st Φ ν hr
 refine ⟨fun _ => ?_, fun h => by simp at h⟩
 obtain ⟨vs0, h1, h2⟩ := tO_sound hr.env hs
 obtain ⟨v, vy, h3, h4, h5, h6⟩ := src_sound hr.sim hr.env hx
 have hkeep0 : ∀ l ∈ ks, ∀ u, l.eval C.P C.w0 venv st = some u → l.eval C.P C.w0 venv st = some u := fun _ _ _ h => h
 rcases h2.s_inv with ⟨hv, _, hn0, rfl⟩ | ⟨b, hbk, rfl⟩
 ·-- it is nil
  subst hn0
  have hxs : xs = [] := List.length_eq_zero_iff.1 hn.symm
  subst hxs
  rw [Nat.zero_add] at hb
  by_cases hm : ys.length = 0
  ·have he : (HOp.append ty sz bytes s x).eval C.w0 venv st = some (.slice none 0 0, st) := by
    simp only [HOp.eval, h1, h3, h4, appendV]
    rw [if_pos ⟨trivial, trivial, by omega⟩, if_pos hm]
   simp only [COp.step, he]
   refine ⟨hkeep0, ?_⟩
   have hy := List.length_eq_zero_iff.1 hm
   subst hy
   exact h _ _ _ _ ((hr.move hk hv).put (.sn _ _ _ (upN_self ..)) d)
  ·have he : (HOp.append ty sz bytes s x).eval C.w0 venv st = some (.slice (some ⟨st.next, 0, none⟩) ys.length sz, st.alloc (.cells vy ty)) := by
    simp only [HOp.eval, h1, h3, h4, appendV]
    rw [if_pos ⟨trivial, trivial, by omega⟩, if_neg hm]
   simp only [COp.step, he]
   refine ⟨keepAll_sound hr.sim hr.env (.inl (by rw [hk]; rfl)) (fun c hc _ => alloc_ne _ _ (Nat.ne_of_lt hc)) (fun b o n _ _ _ hn => by rw [hv] at hn; cases hn) hks, ?_⟩
   have hcr : CRel C.w0 st Φ ν (.rows sz ([] ++ ys) ty) (.cells vy ty) := ⟨rfl, h6, by simp; omega, h5⟩
   have hr' : RelT C env (σ.del k) venv st Φ ν := ⟨hr.sim.drop k, hr.env, hr.next, hr.frame, hr.mine, hr.pin, hr.phi0, hr.phi⟩
   refine h _ _ _ _ ((hr'.alloc hcr).put ?_ d)
   have := TRel.s (w0 := C.w0) (st := st.alloc (.cells vy ty)) (Φ := Φ) (ν := upN ν σ.next (some st.next)) σ.next sz 0 ys.length true st.next (upN_self ..)
   rw [Nat.zero_mul] at this
   rw [Nat.zero_add]; exact this
 ·rcases hr.sim.has hk with ⟨q1, _⟩ | ⟨b', bk, q1, q2, q3⟩
  ·rw [hbk] at q1; cases q1
  rw [hbk] at q1; cases q1
  cases bk with
  | cells vs ty' =>
   obtain ⟨rfl, q4, q5, q6⟩ := q3
   have hlo := (hr.sim.lt hbk).1
   have hnb : ¬ b < C.w0.heap.size := by omega
   by_cases hm : ys.length = 0
   ·have he : (HOp.append ty' sz bytes s x).eval C.w0 venv st = some (.slice (some ⟨b, 0 * sz, none⟩) n sz, st) := by
     simp only [HOp.eval, h1, h3, h4, appendV, cond_true]
     rw [if_neg hnb, if_pos ⟨trivial, trivial, hb⟩, if_pos hm]
    simp only [COp.step, he]
    refine ⟨hkeep0, ?_⟩
    have hy := List.length_eq_zero_iff.1 hm
    subst hy
    rw [List.append_nil] at h
    exact h _ _ _ _ ((hr.move hk hbk).put (.s _ _ _ _ _ _ (upN_self ..)) d)
   ·have hl := q6.len
    rw [flat_len q4] at hl
    have he : (HOp.append ty' sz bytes s x).eval C.w0 venv st = some (.slice (some ⟨st.next, 0, none⟩) (n + ys.length) sz, (st.kill b).alloc (.cells (vs ++ vy) ty')) := by
     simp only [HOp.eval, h1, h3, h4, appendV, cond_true]
     rw [if_neg hnb, if_pos ⟨trivial, trivial, hb⟩, if_neg hm]
     simp only [q2]
     rw [if_pos ⟨trivial, by rw [hn]; omega⟩]
     simp
    simp only [COp.step, he]
    refine ⟨keepAll_sound hr.sim hr.env (.inl (by rw [hk]; rfl)) (fun c hc hne => ?_) (fun b o n hcs => by obtain ⟨_, _, hcs⟩ := hcs; rw [hk] at hcs; cases hcs) hks, ?_⟩
    ·rw [alloc_ne _ _ (by have : (st.kill b).next = st.next := rfl; omega), kill_ne _ (fun e => hne (by rw [e]; exact hbk))]
    ·have hn' := hr.sim.npf k b (by rw [hk]; rfl) hbk
     have hs' : ∀ c, Φ c → (st.kill b).blk c = st.blk c := fun c hc => kill_ne _ (fun e => hn' (e ▸ hc))
     have hcr : CRel C.w0 (st.kill b) Φ ν (.rows sz (xs ++ ys) ty') (.cells (vs ++ vy) ty') := by
      refine ⟨rfl, ?_, by rw [lA]; omega, ?_⟩
      ·intro z hz
       rcases List.mem_append.1 hz with h | h
       ·exact q4 z h
       ·exact h6 z h
      ·rw [List.flatten_append]
       exact (flat_app q6 h5).stable (fun _ h => h) hs'
     refine h _ _ _ _ (((hr.kill hk hbk).alloc hcr).put ?_ d)
     have := TRel.s (w0 := C.w0) (st := (st.kill b).alloc (.cells (vs ++ vy) ty')) (Φ := Φ) (ν := upN ν (σ.del k).next (some (st.kill b).next)) σ.next sz 0 (n + ys.length) true st.next (upN_self ..)
     rwa [Nat.zero_mul] at this
  | _ => exact q3.elim
end
end Go.Proofs.YtnphhelbianjpaaGreatDoor.V
namespace Go.Proofs.YtnphhelbianjpaaGreatDoor.V
open Go Go.RowKit

section
variable {C : Cx} {env : TEnv} {σ : TS}

theorem w_env {env' : TEnv} (h : ∀ t x, look t env' = some x → look t env = some x) : Weak C env σ env' σ :=
 fun _ _ Φ ν hr => ⟨Φ, ν, hr.sim, fun t x ht => hr.env t x (h t x ht), hr.next, hr.frame, hr.mine, hr.pin, hr.phi0, hr.phi⟩

theorem TE.put1 {w0 : World} {st : St} {Φ : Nat → Prop} {ν : Nu} {venv : Env} (h : TE w0 st Φ ν env venv) {d : Nat} {x y : TV} (hd : look d env = some x) (hx : ∀ v, TRel w0 st Φ ν x v → TRel w0 st Φ ν y v) : TE w0 st Φ ν ((d, y) :: env) venv := by
 intro t z ht
 rw [look_cons] at ht
 split at ht
 ·rename_i e
  cases ht; subst e
  obtain ⟨v, h1, h2⟩ := h t x hd
  exact ⟨v, h1, hx v h2⟩
 ·exact h t z ht

theorem w_virt {d : Nat} (sz : Nat) (ty : TypeId) (hd : look d env = some (.v (.slice none 0 0))) : Weak C env σ ((d, .s σ.next sz 0 0 true) :: env) (σ.alloc (.rows sz [] ty)) := by
 intro venv st Φ ν hr
 have hr' := hr.virt sz ty
 refine ⟨Φ, _, hr'.sim, hr'.env.put1 hd fun v hv => ?_, hr'.next, hr'.frame, hr'.mine, hr'.pin, hr'.phi0, hr'.phi⟩
 obtain ⟨rfl, _⟩ := hv.v_inv
 exact .sn _ _ _ (upN_self ..)

inductive Frz1 (k sz : Nat) (xs : List (List TV)) : TV → TV → Prop
 | refl (x : TV) : Frz1 k sz xs x x
 | s (n : Nat) (c : Bool) : n = xs.length → Frz1 k sz xs (.s k sz 0 n c) (.lst sz xs)
 | agg (cs ds : List TV) : cs.length = ds.length → (∀ (i : Nat) (x y : TV), cs[i]? = some x → ds[i]? = some y → Frz1 k sz xs x y) → Frz1 k sz xs (.agg cs) (.agg ds)

theorem frel_rows {w0 : World} {st : St} {Φ : Nat → Prop} {ν : Nu} (hs : TSim w0 st Φ ν σ) {k sz n : Nat} {xs : List (List TV)} {ty : TypeId} {c : Bool} (hk : σ.get k = some (.rows sz xs ty)) (hn : n = xs.length) {v : Value} (hv : TRel w0 st Φ ν (.s k sz 0 n c) v) :
  FRel w0 st (fun b => Φ b ∨ ν k = some (some b)) (.lst sz xs) v := by
 rcases hs.has hk with ⟨q1, _, _, q2⟩ | ⟨b, bk, q1, q2, q3⟩
 ·cases q2
  rcases hv.s_inv with ⟨_, _, rfl, rfl⟩ | ⟨b, hb, rfl⟩
  ·exact .lst sz [] none 0 0 [] rfl (by omega) (by simp) (fun _ => Nat.le_refl _) (by simp) (by simp) (by simp) (by simp)
  ·rw [q1] at hb; cases hb
 ·rcases hv.s_inv with ⟨hb, _, _, rfl⟩ | ⟨b', hb, rfl⟩
  ·rw [q1] at hb; cases hb
  ·rw [q1] at hb; cases hb
   cases bk with
   | cells vs ty' =>
    obtain ⟨rfl, q4, q5, q6⟩ := q3
    have hl := q6.len
    rw [flat_len q4] at hl
    refine .lst sz xs _ n _ vs hn (by omega) (fun a0 ha hlt => ?_) (fun h => by cases h) (fun a0 ha _ => by cases ha; rfl) q4 (fun _ => ⟨b, 0 * sz, rfl, .inr (.inr q1), ?_⟩) ?_
    ·cases ha; have := (hs.lt q1).1; simp only at hlt; omega
    ·have := cellsAt_mine (w0 := w0) (st := st) (b := b) (o := 0 * sz) (n := n * sz) (hs.lt q1).1 q2 (by rw [hn]; omega)
     rw [this]
     simp only [Nat.zero_mul, List.drop_zero]
     rw [List.take_of_length_le (by rw [hn]; omega)]
    ·intro j y z hy hz
     exact (q6.rel j y z hy hz).stable (fun _ h => .inl h) (fun _ _ => rfl)
   | _ => exact q3.elim

theorem frz1_sound {w0 : World} {st : St} {Φ : Nat → Prop} {ν : Nu} (hs : TSim w0 st Φ ν σ) {k sz : Nat} {xs : List (List TV)} {ty : TypeId} (hk : σ.get k = some (.rows sz xs ty)) {x y : TV} (h : Frz1 k sz xs x y) :
  ∀ {v : Value}, TRel w0 st Φ ν x v → TRel w0 st (fun b => Φ b ∨ ν k = some (some b)) ν y v := by
 induction h with
 | refl x => exact fun hv => hv.stable (fun _ h => .inl h) (fun _ _ => rfl) (fun _ _ h => h)
 | s n c hn => exact fun hv => .f _ _ (frel_rows hs hk hn hv)
 | agg cs ds hl _ ih =>
  intro v hv
  obtain ⟨vs, rfl, h2⟩ := hv.agg_inv
  refine .agg _ _ (by rw [← hl]; simpa using h2.len) fun i y z hy hz => ?_
  have hi : i < cs.length := by rw [hl]; exact (List.getElem?_eq_some_iff.1 hy).1
  exact ih i cs[i] y (List.getElem?_eq_getElem hi) hy (h2.rel i cs[i] z (List.getElem?_eq_getElem hi) (by simpa using hz))

theorem w_freeze {d k sz : Nat} {xs : List (List TV)} {ty : TypeId} {x y : TV} (hd : look d env = some x) (hk : σ.get k = some (.rows sz xs ty)) (h : Frz1 k sz xs x y) : Weak C env σ ((d, y) :: env) (σ.del k) := by
 intro venv st Φ ν hr
 have hs := hr.sim
 have hst : ∀ {x v}, TRel C.w0 st Φ ν x v → TRel C.w0 st (fun b => Φ b ∨ ν k = some (some b)) ν x v := fun hv => hv.stable (fun _ h => .inl h) (fun _ _ => rfl) (fun _ _ h => h)
 have henv : TE C.w0 st (fun b => Φ b ∨ ν k = some (some b)) ν ((d, y) :: env) venv := by
  intro t z ht
  rw [look_cons] at ht
  split at ht
  ·rename_i e
   cases ht; subst e
   obtain ⟨v, h1, h2⟩ := hr.env t x hd
   exact ⟨v, h1, frz1_sound hs hk h h2⟩
  ·obtain ⟨v, h1, h2⟩ := hr.env t z ht
   exact ⟨v, h1, hst h2⟩
 refine ⟨fun b => Φ b ∨ ν k = some (some b), ν, ?_, henv, hr.next, hr.frame, hr.mine, hr.pin, fun b hb => .inl (hr.phi0 b hb), ?_⟩
 ·cases hv : ν k with
  | none => exact absurd (hs.obj k _ hk) (by rw [hv]; exact id)
  | some r =>
   cases r with
   | none =>
    have h1 := hs.drop k
    have e : (fun b => Φ b ∨ (some none : Option (Option Nat)) = some (some b)) = Φ := by funext b; simp
    rw [e]; exact h1
   | some b =>
    have h1 := hs.freeze (by rw [hk]; rfl) hv
    have e : (fun c => Φ c ∨ (some (some b) : Option (Option Nat)) = some (some c)) = fun c => Φ c ∨ c = b := by
     funext c; simp only [Option.some.injEq, eq_comm]
    rw [e]; exact h1
 ·rintro b (h | h)
  ·exact hr.phi b h
  ·exact .inr (hr.mine k b h)

theorem w_freezeC {j i k sz : Nat} {cs : List TV} {tc : TypeId} {xs : List (List TV)} {ty : TypeId} {x y : TV} (hj : σ.get j = some (.cells cs tc)) (hi : cs[i]? = some x) (hk : σ.get k = some (.rows sz xs ty)) (hjk : j ≠ k) (h : Frz1 k sz xs x y) :
  Weak C env σ env ((σ.del k).set j (.cells (cs.set i y) tc)) := by
 intro venv st Φ ν hr
 have hs := hr.sim
 have hst : ∀ {x v}, TRel C.w0 st Φ ν x v → TRel C.w0 st (fun b => Φ b ∨ ν k = some (some b)) ν x v := fun hv => hv.stable (fun _ h => .inl h) (fun _ _ => rfl) (fun _ _ h => h)
 have hsim : TSim C.w0 st (fun b => Φ b ∨ ν k = some (some b)) ν (σ.del k) := by
  cases hv : ν k with
  | none => exact absurd (hs.obj k _ hk) (by rw [hv]; exact id)
  | some r =>
   cases r with
   | none =>
    have h1 := hs.drop k
    have e : (fun b => Φ b ∨ (some none : Option (Option Nat)) = some (some b)) = Φ := by funext b; simp
    rw [e]; exact h1
   | some b =>
    have h1 := hs.freeze (by rw [hk]; rfl) hv
    have e : (fun c => Φ c ∨ (some (some b) : Option (Option Nat)) = some (some c)) = fun c => Φ c ∨ c = b := by
     funext c; simp only [Option.some.injEq, eq_comm]
    rw [e]; exact h1
 refine ⟨_, ν, ?_, fun t z ht => let ⟨v, h1, h2⟩ := hr.env t z ht; ⟨v, h1, hst h2⟩, hr.next, hr.frame, hr.mine, hr.pin, fun b hb => .inl (hr.phi0 b hb), ?_⟩
 ·refine ⟨hsim.ok, ?_, hsim.own, ?_, hsim.fro, hsim.dom, ?_⟩
  ·intro a b c h1 h2
   rw [TS.get_set] at h1 h2
   refine hsim.inj a b c ?_ ?_
   ·split at h1
    ·subst a; cases hq : (σ.del k).get j <;> simp [hq] at h1 ⊢
    ·exact h1
   ·split at h2
    ·subst b; cases hq : (σ.del k).get j <;> simp [hq] at h2 ⊢
    ·exact h2
  ·intro a c h1
   rw [TS.get_set] at h1
   refine hsim.npf a c ?_
   split at h1
   ·subst a; cases hq : (σ.del k).get j <;> simp [hq] at h1 ⊢
   ·exact h1
  ·intro a o ha
   rw [TS.get_set] at ha
   by_cases e : a = j
   ·subst e
    have hg : (σ.del k).get a = some (.cells cs tc) := by rw [TS.get_del, if_neg hjk]; exact hj
    rw [if_pos rfl, hg] at ha; cases ha
    rcases hs.has hj with ⟨_, _, _, q2⟩ | ⟨b, bk, q1, q2, q3⟩
    ·cases q2
    ·rw [q1]
     refine ⟨bk, q2, ?_⟩
     cases bk with
     | cells vs ty' =>
      refine ⟨q3.1, by rw [List.length_set]; exact q3.2.len, fun p z u hz hu => ?_⟩
      rw [List.getElem?_set] at hz
      split at hz
      ·rename_i hp
       subst hp
       split at hz
       ·cases hz
        exact frz1_sound hs hk h (q3.2.rel i x u hi hu)
       ·cases hz
      ·exact hst (q3.2.rel p z u hz hu)
     | _ => exact q3.elim
   ·rw [if_neg e] at ha
    exact hsim.obj a o ha
 ·rintro b (h | h)
  ·exact hr.phi b h
  ·exact .inr (hr.mine k b h)
end

section
variable {σ : TS} {env : TEnv} {C : Cx}

inductive RenV (bk : List (Nat × Nat)) : TV → TV → Prop
 | f (x : TV) : frozV x = true → RenV bk x x
 | p (k k' o : Nat) : look k' bk = some k → RenV bk (.p k o) (.p k' o)
 | e (k k' sz i o : Nat) : look k' bk = some k → RenV bk (.e k sz i o) (.e k' sz i o)
 | s (k k' sz o n : Nat) (c : Bool) : look k' bk = some k → RenV bk (.s k sz o n c) (.s k' sz o n c)
 | m (k k' : Nat) : look k' bk = some k → RenV bk (.m k) (.m k')
 | agg (cs ds : List TV) : cs.length = ds.length → (∀ (i : Nat) (x y : TV), cs[i]? = some x → ds[i]? = some y → RenV bk x y) → RenV bk (.agg cs) (.agg ds)
 | tup (cs ds : List TV) : cs.length = ds.length → (∀ (i : Nat) (x y : TV), cs[i]? = some x → ds[i]? = some y → RenV bk x y) → RenV bk (.tup cs) (.tup ds)

def RenL (bk : List (Nat × Nat)) (cs ds : List TV) : Prop := cs.length = ds.length ∧ ∀ (i : Nat) (x y : TV), cs[i]? = some x → ds[i]? = some y → RenV bk x y
theorem RenL.nil (bk : List (Nat × Nat)) : RenL bk [] [] := ⟨rfl, fun i x y h => by simp at h⟩
theorem RenL.cons {bk : List (Nat × Nat)} {x y : TV} {cs ds : List TV} (h : RenV bk x y) (k : RenL bk cs ds) : RenL bk (x :: cs) (y :: ds) := by
 refine ⟨by simp [k.1], fun i a b ha hb => ?_⟩
 cases i with
 | zero => simp at ha hb; subst ha; subst hb; exact h
 | succ i => exact k.2 i a b (by simpa using ha) (by simpa using hb)

inductive RenO (bk : List (Nat × Nat)) : TObj → TObj → Prop
 | cells (cs ds : List TV) (ty : TypeId) : RenL bk cs ds → RenO bk (.cells cs ty) (.cells ds ty)
 | rows (sz : Nat) (xs : List (List TV)) (ty : TypeId) : RenO bk (.rows sz xs ty) (.rows sz xs ty)
 | iter (s : ByteArray) (p : Nat) : RenO bk (.iter s p) (.iter s p)
 | map (es : List (Value × TV)) : (∀ (k : Value) (x : TV), (k, x) ∈ es → frozV x = true) → RenO bk (.map es) (.map es)
 | ptrs (ks ks' : List Nat) (ty : TypeId) : ks.length = ks'.length → (∀ (i k k' : Nat), ks[i]? = some k → ks'[i]? = some k' → look k' bk = some k) → RenO bk (.ptrs ks ty) (.ptrs ks' ty)

inductive RenS (bk : List (Nat × Nat)) (σ : TS) : List (Nat × TObj) → Prop
 | nil : RenS bk σ []
 | cons (k k' : Nat) (o o' : TObj) (r : List (Nat × TObj)) : look k' bk = some k → σ.get k = some o → RenO bk o o' → RenS bk σ r → RenS bk σ ((k', o') :: r)

inductive RenE (bk : List (Nat × Nat)) (env : TEnv) : TEnv → Prop
 | nil : RenE bk env []
 | cons (t : Nat) (x y : TV) (r : TEnv) : look t env = some x → RenV bk x y → RenE bk env r → RenE bk env ((t, y) :: r)

def injB : List (Nat × Nat) → Bool
 | [] => true
 | (a, b) :: r => r.all (fun p => !(Nat.beq p.1 a) && !(Nat.beq p.2 b)) && injB r

theorem injB_inj : ∀ {bk : List (Nat × Nat)}, injB bk = true → ∀ {i j k : Nat}, look i bk = some k → look j bk = some k → i = j
 | [], _, i, j, k, h, _ => by cases h
 | (a, b) :: r, h, i, j, k, hi, hj => by
  simp only [injB, Bool.and_eq_true, List.all_eq_true] at h
  have mem : ∀ {t q}, look t r = some q → (t, q) ∈ r := by
   intro t q
   clear h hi hj
   induction r with
   | nil => intro h; cases h
   | cons p r ih =>
    obtain ⟨d, x⟩ := p
    intro h
    rw [look_cons] at h
    split at h
    ·cases h; subst t; exact List.mem_cons_self ..
    ·exact List.mem_cons_of_mem _ (ih h)
  rw [look_cons] at hi hj
  split at hi
  ·cases hi
   split at hj
   ·omega
   ·have := h.1 _ (mem hj)
    simp at this
  ·split at hj
   ·cases hj
    have := h.1 _ (mem hi)
    simp at this
   ·exact injB_inj h.2 hi hj

theorem renV_sound {w0 : World} {st : St} {Φ : Nat → Prop} {ν : Nu} {bk : List (Nat × Nat)} {x y : TV} (h : RenV bk x y) : ∀ {v : Value}, TRel w0 st Φ ν x v → TRel w0 st Φ (fun k => (look k bk).bind ν) y v := by
 induction h with
 | f x h => exact fun hv => .f _ _ (frozV_rel h hv)
 | p k k' o h =>
  intro v hv
  obtain ⟨b, h1, rfl⟩ := hv.p_inv
  exact .p _ _ b (by simp [h, h1])
 | e k k' sz i o h =>
  intro v hv
  obtain ⟨b, h1, rfl⟩ := hv.e_inv
  exact .e _ _ _ _ b (by simp [h, h1])
 | s k k' sz o n c h =>
  intro v hv
  rcases hv.s_inv with ⟨h1, rfl, rfl, rfl⟩ | ⟨b, h1, rfl⟩
  ·exact .sn _ _ _ (by simp [h, h1])
  ·exact .s _ _ _ _ _ b (by simp [h, h1])
 | m k k' h =>
  intro v hv
  obtain ⟨b, h1, rfl⟩ := hv.m_inv
  exact .m _ b (by simp [h, h1])
 | agg cs ds hl _ ih =>
  intro v hv
  obtain ⟨vs, rfl, h2⟩ := hv.agg_inv
  refine .agg _ _ (by rw [← hl]; simpa using h2.len) fun i y z hy hz => ?_
  have hi : i < cs.length := by rw [hl]; exact (List.getElem?_eq_some_iff.1 hy).1
  exact ih i cs[i] y (List.getElem?_eq_getElem hi) hy (h2.rel i cs[i] z (List.getElem?_eq_getElem hi) (by simpa using hz))
 | tup cs ds hl _ ih =>
  intro v hv
  obtain ⟨vs, rfl, h2⟩ := hv.tup_inv
  refine .tup _ _ (by rw [← hl]; simpa using h2.len) fun i y z hy hz => ?_
  have hi : i < cs.length := by rw [hl]; exact (List.getElem?_eq_some_iff.1 hy).1
  exact ih i cs[i] y (List.getElem?_eq_getElem hi) hy (h2.rel i cs[i] z (List.getElem?_eq_getElem hi) (by simpa using hz))

theorem renL_sound {w0 : World} {st : St} {Φ : Nat → Prop} {ν : Nu} {bk : List (Nat × Nat)} {cs ds : List TV} (h : RenL bk cs ds) {vs : List Value} (hv : RelL w0 st Φ ν cs vs) : RelL w0 st Φ (fun k => (look k bk).bind ν) ds vs := by
 refine ⟨by rw [← h.1]; exact hv.len, fun i y z hy hz => ?_⟩
 have hi : i < cs.length := by rw [h.1]; exact (List.getElem?_eq_some_iff.1 hy).1
 exact renV_sound (h.2 i cs[i] y (List.getElem?_eq_getElem hi) hy) (hv.rel i cs[i] z (List.getElem?_eq_getElem hi) hz)

theorem renO_sound {w0 : World} {st : St} {Φ : Nat → Prop} {ν : Nu} {bk : List (Nat × Nat)} {o o' : TObj} (h : RenO bk o o') {b : Blk} (hc : CRel w0 st Φ ν o b) : CRel w0 st Φ (fun k => (look k bk).bind ν) o' b := by
 cases h with
 | cells cs ds ty hl => cases b with
  | cells vs ty' => exact ⟨hc.1, renL_sound hl hc.2⟩
  | _ => exact hc.elim
 | rows sz xs ty => cases b with
  | cells vs ty' => exact hc
  | _ => exact hc.elim
 | iter s p => cases b with
  | iter s' p' => exact hc
  | _ => exact hc.elim
 | map es hf => cases b with
  | map vs => exact ⟨hc.1, fun i k x hx => let ⟨y, h1, h2⟩ := hc.2 i k x hx; ⟨y, h1, .f _ _ (frozV_rel (hf k x (List.mem_of_getElem? hx)) h2)⟩⟩
  | _ => exact hc.elim
 | ptrs ks ks' ty hl hk => cases b with
  | cells vs ty' =>
   refine ⟨hc.1, ?_⟩
   have hc2 : RelL w0 st Φ ν (ks.map fun k => .p k 0) vs := hc.2
   refine renL_sound (cs := ks.map fun k => .p k 0) ⟨by simp [hl], fun i x y hx hy => ?_⟩ hc2
   rw [List.getElem?_map] at hx hy
   cases h1 : ks[i]? with
   | none => simp [h1] at hx
   | some k =>
    cases h2 : ks'[i]? with
    | none => simp [h2] at hy
    | some k' =>
     simp [h1] at hx; simp [h2] at hy
     subst hx; subst hy
     exact .p _ _ _ (hk i k k' h1 h2)
  | _ => exact hc.elim

theorem renS_get {bk : List (Nat × Nat)} : ∀ {l : List (Nat × TObj)}, RenS bk σ l → ∀ {k' : Nat} {o' : TObj}, look k' l = some o' → ∃ k o, look k' bk = some k ∧ σ.get k = some o ∧ RenO bk o o'
 | _, .nil, k', o', h => by cases h
 | _, .cons k k1 o o1 r h1 h2 h3 h4, k', o', h => by
  rw [look_cons] at h
  split at h
  ·cases h; subst k'; exact ⟨k, o, h1, h2, h3⟩
  ·exact renS_get h4 h

theorem renE_get {bk : List (Nat × Nat)} : ∀ {l : TEnv}, RenE bk env l → ∀ {t : Nat} {y : TV}, look t l = some y → ∃ x, look t env = some x ∧ RenV bk x y
 | _, .nil, t, y, h => by cases h
 | _, .cons t0 x y0 r h1 h2 h3, t, y, h => by
  rw [look_cons] at h
  split at h
  ·cases h; subst t; exact ⟨x, h1, h2⟩
  ·exact renE_get h3 h

theorem w_ren (bk : List (Nat × Nat)) {env' : TEnv} {σ' : TS} (hb : injB bk = true) (hp : ∀ j ∈ C.pins, look j bk = some j) (hn : bk.all (fun p => Nat.blt p.1 σ'.next) = true) (hE : RenE bk env env') (hS : RenS bk σ σ'.objs) : Weak C env σ env' σ' := by
 intro venv st Φ ν hr
 refine ⟨Φ, fun k => (look k bk).bind ν, ?_, ?_, hr.next, hr.frame, ?_, fun j hj => (by rw [hp j hj, Option.bind_some]; exact hr.pin j hj), hr.phi0, hr.phi⟩
 ·have bnd : ∀ {k r}, (look k bk).bind ν = some r → ∃ j, look k bk = some j ∧ ν j = some r := by
   intro k r h
   cases hk : look k bk with
   | none => simp [hk] at h
   | some j => simp [hk] at h; exact ⟨j, rfl, h⟩
  refine ⟨hr.sim.ok, ?_, ?_, ?_, hr.sim.fro, ?_, ?_⟩
  ·intro i j c h1 h2 h3 h4
   obtain ⟨o1, h1⟩ := Option.isSome_iff_exists.1 h1
   obtain ⟨o2, h2⟩ := Option.isSome_iff_exists.1 h2
   obtain ⟨a, oa, a1, a2, _⟩ := renS_get hS h1
   obtain ⟨b, ob, b1, b2, _⟩ := renS_get hS h2
   simp only [a1, b1, Option.bind_some] at h3 h4
   have := hr.sim.inj a b c (by rw [a2]; rfl) (by rw [b2]; rfl) h3 h4
   subst this
   exact injB_inj hb a1 b1
  ·intro i c h
   obtain ⟨j, _, h2⟩ := bnd h
   exact hr.sim.own j c h2
  ·intro i c h1 h2
   obtain ⟨o1, h1⟩ := Option.isSome_iff_exists.1 h1
   obtain ⟨a, oa, a1, a2, _⟩ := renS_get hS h1
   simp only [a1, Option.bind_some] at h2
   exact hr.sim.npf a c (by rw [a2]; rfl) h2
  ·intro k hk
   cases hl : look k bk with
   | none => rfl
   | some j =>
    have mem : ∀ {l : List (Nat × Nat)} {t q}, look t l = some q → (t, q) ∈ l := by
     intro l
     induction l with
     | nil => intro t q h; cases h
     | cons p r ih =>
      obtain ⟨d, x⟩ := p
      intro t q h
      rw [look_cons] at h
      split at h
      ·cases h; subst t; exact List.mem_cons_self ..
      ·exact List.mem_cons_of_mem _ (ih h)
    have := List.all_eq_true.1 hn _ (mem hl)
    simp [Nat.blt] at this
    omega
  ·intro k o' hk
   obtain ⟨a, oa, a1, a2, a3⟩ := renS_get hS hk
   show ObjAt C.w0 st Φ _ o' ((look k bk).bind ν)
   rw [a1, Option.bind_some]
   rcases hr.sim.has a2 with ⟨q1, sz, ty, rfl⟩ | ⟨c, bk', q1, q2, q3⟩
   ·rw [q1]
    cases a3
    exact ⟨sz, ty, rfl⟩
   ·rw [q1]
    exact ⟨bk', q2, renO_sound a3 q3⟩
 ·intro t y ht
  obtain ⟨x, h1, h2⟩ := renE_get hE ht
  obtain ⟨v, h3, h4⟩ := hr.env t x h1
  exact ⟨v, h3, renV_sound h2 h4⟩
 ·intro k c h
  cases hk : look k bk with
  | none => simp [hk] at h
  | some j => simp [hk] at h; exact hr.mine j c h
end
end Go.Proofs.YtnphhelbianjpaaGreatDoor.V
namespace Go.Proofs.YtnphhelbianjpaaGreatDoor.V
open Go Go.RowKit

inductive Fz (σ : TS) : TV → TV → Prop
 | f (x : TV) : frozB x = true → Fz σ x x
 | nil (sz : Nat) : Fz σ (.v (.slice none 0 0)) (.lst sz [])
 | s (k sz n : Nat) (c : Bool) (xs : List (List TV)) (ty : TypeId) : σ.get k = some (.rows sz xs ty) → n = xs.length → Fz σ (.s k sz 0 n c) (.lst sz xs)
 | p (k off : Nat) (cs ds : List TV) (ty : TypeId) : σ.get k = some (.cells cs ty) → cs.length = ds.length → (∀ (i : Nat) (x y : TV), cs[i]? = some x → ds[i]? = some y → Fz σ x y) → Fz σ (.p k off) (.fp ds off)
 | e (k sz i off : Nat) (xs : List (List TV)) (ty : TypeId) (c : List TV) : σ.get k = some (.rows sz xs ty) → xs[i]? = some c → Fz σ (.e k sz i off) (.fp c off)
 | m (k : Nat) (es : List (Value × TV)) : σ.get k = some (.map es) → (∀ (k : Value) (x : TV), (k, x) ∈ es → frozV x = true) → Fz σ (.m k) (.fm es)
 | agg (cs ds : List TV) : cs.length = ds.length → (∀ (i : Nat) (x y : TV), cs[i]? = some x → ds[i]? = some y → Fz σ x y) → Fz σ (.agg cs) (.agg ds)
 | tup (cs ds : List TV) : cs.length = ds.length → (∀ (i : Nat) (x y : TV), cs[i]? = some x → ds[i]? = some y → Fz σ x y) → Fz σ (.tup cs) (.tup ds)

def FzL (σ : TS) (cs ds : List TV) : Prop := cs.length = ds.length ∧ ∀ (i : Nat) (x y : TV), cs[i]? = some x → ds[i]? = some y → Fz σ x y

def flatB : TV → Bool
 | .v _ => true
 | _ => false
def flatL : List TV → Bool
 | [] => true
 | x :: r => bif (match x with
  | .agg cs => cs.all flatB
  | x => flatB x) then flatL r else false
def flatT : TV → Bool
 | .agg cs => cs.all flatB
 | .tup cs => flatL cs
 | x => flatB x

section
variable {w0 : World} {st : St} {Φ : Nat → Prop} {ν : Nu} {σ : TS}

theorem FzL.nil : FzL σ [] [] := ⟨rfl, fun i x y h => by simp at h⟩
theorem FzL.cons {x y : TV} {cs ds : List TV} (h : Fz σ x y) (k : FzL σ cs ds) : FzL σ (x :: cs) (y :: ds) := by
 refine ⟨by simp [k.1], fun i a b ha hb => ?_⟩
 cases i with
 | zero => simp at ha hb; subst ha; subst hb; exact h
 | succ i => exact k.2 i a b (by simpa using ha) (by simpa using hb)
theorem Fz.aggL {cs ds : List TV} (h : FzL σ cs ds) : Fz σ (.agg cs) (.agg ds) := .agg _ _ h.1 h.2
theorem Fz.tupL {cs ds : List TV} (h : FzL σ cs ds) : Fz σ (.tup cs) (.tup ds) := .tup _ _ h.1 h.2
theorem Fz.pL {k off : Nat} {cs ds : List TV} {ty : TypeId} (hk : σ.get k = some (.cells cs ty)) (h : FzL σ cs ds) : Fz σ (.p k off) (.fp ds off) := .p _ _ _ _ _ hk h.1 h.2
theorem FzL.fr : ∀ {cs : List TV}, frozL cs = true → FzL σ cs cs
 | [], _ => .nil
 | x :: r, h => by
  simp only [frozL] at h
  cases hx : frozB x with
  | false => simp [hx] at h
  | true => simp only [hx, cond_true] at h; exact .cons (.f x hx) (.fr h)
theorem Fz.fr {x : TV} (h : frozV x = true) : Fz σ x x := by
 cases x with
 | agg cs => exact .aggL (.fr h)
 | tup cs => exact .tupL (.fr h)
 | _ => exact .f _ (by simpa [frozV] using h)

def Own (σ : TS) (ν : Nu) (b : Nat) : Prop := ∃ k, (σ.get k).isSome = true ∧ ν k = some (some b)

theorem fz_sound (hs : TSim w0 st Φ ν σ) {x y : TV} (h : Fz σ x y) : ∀ {v : Value}, TRel w0 st Φ ν x v → FRel w0 st (fun b => Φ b ∨ Own σ ν b) y v := by
 induction h with
 | f x h => exact fun hv => (frozB_rel h hv).stable (fun _ h => .inl h) fun _ _ => rfl
 | nil sz =>
  intro v hv
  obtain ⟨rfl, _⟩ := hv.v_inv
  exact .lst sz [] none 0 0 [] rfl (by omega) (by simp) (fun _ => Nat.le_refl _) (by simp) (by simp) (by simp) (by simp)
 | s k sz n c xs ty hk hn =>
  intro v hv
  exact (frel_rows hs hk hn hv).stable (fun b h => h.imp id fun h => ⟨k, by rw [hk]; rfl, h⟩) fun _ _ => rfl
 | p k off cs ds ty hk hl _ ih =>
  intro v hv
  obtain ⟨b, hb, rfl⟩ := hv.p_inv
  rcases hs.has hk with ⟨_, _, _, q2⟩ | ⟨b', bk, q1, q2, q3⟩
  ·cases q2
  ·rw [hb] at q1; cases q1
   cases bk with
   | cells vs ty' =>
    have hlen := q3.2.len
    have := FRel.fp (w0 := w0) (st := st) (Φ := fun b => Φ b ∨ Own σ ν b) ds off b 0 vs (.inr (.inr ⟨k, by rw [hk]; rfl, hb⟩)) ?_ ?_
    ·rwa [Nat.zero_add] at this
    ·rw [cellsAt_mine (hs.lt hb).1 q2 (by omega), List.drop_zero, List.take_of_length_le (by omega)]
    ·intro j y z hy hz
     have hj : j < cs.length := by rw [hl]; exact (List.getElem?_eq_some_iff.1 hy).1
     exact ih j cs[j] y (List.getElem?_eq_getElem hj) hy (q3.2.rel j cs[j] z (List.getElem?_eq_getElem hj) hz)
   | _ => exact q3.elim
 | e k sz i off xs ty c hk hc =>
  intro v hv
  obtain ⟨b, hb, rfl⟩ := hv.e_inv
  rcases hs.has hk with ⟨q1, _, _, q2⟩ | ⟨b', bk, q1, q2, q3⟩
  ·rw [hb] at q1; cases q1
  ·rw [hb] at q1; cases q1
   cases bk with
   | cells vs ty' =>
    obtain ⟨rfl, q4, q5, q6⟩ := q3
    obtain ⟨r1, r2⟩ := flat_row q4 hc
    have hl := q6.len
    have hcl := q4 c (List.mem_of_getElem? hc)
    refine .fp c off b (i * sz) ((vs.drop (i * sz)).take sz) (.inr (.inr ⟨k, by rw [hk]; rfl, hb⟩)) ?_ ?_
    ·rw [hcl, cellsAt_mine (hs.lt hb).1 q2 (by omega)]
    ·intro j y z hy hz
     rw [← r1, List.getElem?_take] at hy
     rw [List.getElem?_take] at hz
     split at hy
     ·rename_i hj
      rw [if_pos hj, List.getElem?_drop] at hz
      rw [List.getElem?_drop] at hy
      exact (q6.rel _ y z hy hz).stable (fun _ h => .inl h) fun _ _ => rfl
     ·cases hy
   | _ => exact q3.elim
 | m k es hk hf =>
  intro v hv
  obtain ⟨b, hb, rfl⟩ := hv.m_inv
  rcases hs.has hk with ⟨_, _, _, q2⟩ | ⟨b', bk, q1, q2, q3⟩
  ·cases q2
  ·rw [hb] at q1; cases q1
   cases bk with
   | map vs =>
    refine .fm es b vs (.inr ⟨k, by rw [hk]; rfl, hb⟩) q2 q3.1 (fun i k' x hx => ?_) (fun i k1 k2 x y hx hy => ?_)
    ·obtain ⟨y, h1, _⟩ := q3.2 i k' x hx
     exact ⟨k', y, h1, rfl⟩
    ·obtain ⟨y', h1, h2⟩ := q3.2 i k1 x hx
     rw [hy] at h1; cases h1
     exact (frozV_rel (hf k1 x (List.mem_of_getElem? hx)) h2).stable (fun _ h => .inl h) fun _ _ => rfl
   | _ => exact q3.elim
 | agg cs ds hl _ ih =>
  intro v hv
  obtain ⟨vs, rfl, h2⟩ := hv.agg_inv
  refine .agg _ _ (by rw [← hl]; simpa using h2.len) fun i y z hy hz => ?_
  have hi : i < cs.length := by rw [hl]; exact (List.getElem?_eq_some_iff.1 hy).1
  exact ih i cs[i] y (List.getElem?_eq_getElem hi) hy (h2.rel i cs[i] z (List.getElem?_eq_getElem hi) (by simpa using hz))
 | tup cs ds hl _ ih =>
  intro v hv
  obtain ⟨vs, rfl, h2⟩ := hv.tup_inv
  refine .tup _ _ (by rw [← hl]; simpa using h2.len) fun i y z hy hz => ?_
  have hi : i < cs.length := by rw [hl]; exact (List.getElem?_eq_some_iff.1 hy).1
  exact ih i cs[i] y (List.getElem?_eq_getElem hi) hy (h2.rel i cs[i] z (List.getElem?_eq_getElem hi) (by simpa using hz))

theorem flatB_rel {st' : St} {Φ' : Nat → Prop} {x : TV} (h : flatB x = true) {v : Value} (hv : FRel w0 st Φ x v) : FRel w0 st' Φ' x v := by
 cases hv <;> first | (rename_i h'; exact .v _ h') | (simp [flatB] at h)
theorem flatA_rel {st' : St} {Φ' : Nat → Prop} {cs : List TV} (h : cs.all flatB = true) {v : Value} (hv : FRel w0 st Φ (.agg cs) v) : FRel w0 st' Φ' (.agg cs) v := by
 cases hv with
 | agg _ vs h1 h2 => exact .agg _ _ h1 fun i x y hx hy => flatB_rel (List.all_eq_true.1 h x (List.mem_of_getElem? hx)) (h2 i x y hx hy)
theorem flatL_mem : ∀ {cs : List TV}, flatL cs = true → ∀ x ∈ cs, (∃ ds, x = .agg ds ∧ ds.all flatB = true) ∨ flatB x = true
 | [], _, x, hx => by cases hx
 | y :: r, h, x, hx => by
  simp only [flatL] at h
  rcases List.mem_cons.1 hx with rfl | hx
  ·cases x with
   | agg ds =>
    cases hd : ds.all flatB with
    | true => exact .inl ⟨ds, rfl, hd⟩
    | false => simp [hd] at h
   | v u => exact .inr rfl
   | _ => simp [flatB] at h
  ·refine flatL_mem ?_ x hx
   generalize (match y with | .agg cs => cs.all flatB | x => flatB x) = q at h
   cases q with
   | true => exact h
   | false => cases h
theorem flatT_rel {st' : St} {Φ' : Nat → Prop} {x : TV} (h : flatT x = true) {v : Value} (hv : FRel w0 st Φ x v) : FRel w0 st' Φ' x v := by
 cases x with
 | agg cs => exact flatA_rel h hv
 | tup cs =>
  cases hv with
  | tup _ vs h1 h2 =>
   refine .tup _ _ h1 fun i x y hx hy => ?_
   rcases flatL_mem h x (List.mem_of_getElem? hx) with ⟨ds, rfl, hd⟩ | hb
   ·exact flatA_rel hd (h2 i _ y hx hy)
   ·exact flatB_rel hb (h2 i x y hx hy)
 | _ => exact flatB_rel (by simpa [flatT] using h) hv
end

def targs (env : TEnv) : List Operand → Option (List TV)
 | [] => some []
 | x :: r => match tO env x with
  | some a => match targs env r with
   | some l => some (a :: l)
   | none => none
  | none => none

def Pure (P : Program) (G : World → Prop) (f : FuncId) (args : List TV) (r : TV) : Prop :=
 ∀ (w0 : World) (st : St) (Φ : Nat → Prop) (vargs : List Value), G w0 → Ok w0 st → (∀ b, Φ b → b < st.next) → RelF w0 st Φ args vargs →
  DCalls P w0 f vargs st fun v st' => FRel w0 st' (fun b => Φ b ∨ (st.next ≤ b ∧ b < st'.next)) r v ∧ st.le st'

section
variable {C : Cx} {K : TK} {env : TEnv} {σ : TS} {rest : List ROp} {d : Option Nat} {q : Bool} {ks : List LOp}

theorem targs_sound {w0 : World} {st : St} {Φ : Nat → Prop} {ν : Nu} {venv : Env} (he : TE w0 st Φ ν env venv) : ∀ {args : List Operand} {l : List TV}, targs env args = some l → ∃ vs, evalArgs venv args = some vs ∧ RelL w0 st Φ ν l vs
 | [], l, h => by cases h; exact ⟨[], rfl, .nil⟩
 | x :: r, l, h => by
  simp only [targs] at h
  split at h
  ·rename_i a ha
   split at h
   ·rename_i l' hl
    cases h
    obtain ⟨v, h1, h2⟩ := tO_sound he ha
    obtain ⟨vs, h3, h4⟩ := targs_sound he hl
    exact ⟨v :: vs, by simp [evalArgs, h1, h3], .cons h2 h4⟩
   ·cases h
  ·cases h

theorem RelT.le {venv : Env} {st st' : St} {Φ : Nat → Prop} {ν : Nu} (hr : RelT C env σ venv st Φ ν) (ho : Ok C.w0 st') (hl : st.le st') : RelT C env σ venv st' (fun b => Φ b ∨ (st.next ≤ b ∧ b < st'.next)) ν :=
 ⟨hr.sim.le ho hl, hr.env.stable (fun _ h => .inl h) (fun b hb => hl.blk b (hr.sim.fro b hb)) (fun _ _ h => h), Nat.le_trans hr.next hl.next,
  fun b hb hL => by rw [hl.blk b (Nat.lt_of_lt_of_le hb hr.next)]; exact hr.frame b hb hL, hr.mine, hr.pin, fun b hb => .inl (hr.phi0 b hb),
  fun b hb => hb.elim (hr.phi b) fun h => .inr (.inr (Nat.le_trans hr.next h.1))⟩

theorem RelL.fz {w0 : World} {st : St} {Φ : Nat → Prop} {ν : Nu} (hs : TSim w0 st Φ ν σ) {l l' : List TV} (h : FzL σ l l') {vs : List Value} (hv : RelL w0 st Φ ν l vs) : RelF w0 st (fun b => Φ b ∨ Own σ ν b) l' vs := by
 refine ⟨by rw [← h.1]; exact hv.len, fun i y z hy hz => ?_⟩
 have hi : i < l.length := by rw [h.1]; exact (List.getElem?_eq_some_iff.1 hy).1
 exact fz_sound hs (h.2 i l[i] y (List.getElem?_eq_getElem hi) hy) (hv.rel i l[i] z (List.getElem?_eq_getElem hi) hz)

theorem tr_call {f : FuncId} {args : List Operand} {l : List TV} {r : TV} (ha : targs env args = some l) (hp : Pure C.P C.G f l r) (hf : frozV (.tup l) = true ∨ ∀ x ∈ l, frozV x = true) (h : TwR C rest K (putT d r env) σ) :
  TwR C (⟨d, none, .call (.fn f) args, q, ks⟩ :: rest) K env σ := by
 intro venv st Φ ν hr
 refine ⟨fun _ => ?_, fun h => by simp at h⟩
 obtain ⟨vs, h1, h2⟩ := targs_sound hr.env ha
 have h3 : RelF C.w0 st Φ l vs := by
  refine ⟨h2.len, fun i x y hx hy => ?_⟩
  rcases hf with hf | hf
  ·exact frozB_rel (frozL_all hf x (List.mem_of_getElem? hx)) (h2.rel i x y hx hy)
  ·exact frozV_rel (hf x (List.mem_of_getElem? hx)) (h2.rel i x y hx hy)
 simp only [COp.step, evalC, h1, Option.map_some]
 refine (hp C.w0 st Φ vs C.hG hr.sim.ok hr.sim.fro h3).mono' fun v st' hv ho hn => ⟨fun _ => .inl hv.2, ?_⟩
 exact h _ _ _ _ ((hr.le ho hv.2).putO (.f _ _ hv.1) d)

theorem tr_callL {f : FuncId} {args : List Operand} {l l' : List TV} {r : TV} (ha : targs env args = some l) (hz : FzL σ l l') (hp : Pure C.P C.G f l' r) (hf : flatT r = true) (h : TwR C rest K (putT d r env) σ) :
  TwR C (⟨d, none, .call (.fn f) args, q, ks⟩ :: rest) K env σ := by
 intro venv st Φ ν hr
 refine ⟨fun _ => ?_, fun h => by simp at h⟩
 obtain ⟨vs, h1, h2⟩ := targs_sound hr.env ha
 have h3 := h2.fz hr.sim hz
 simp only [COp.step, evalC, h1, Option.map_some]
 refine (hp C.w0 st _ vs C.hG hr.sim.ok ?_ h3).mono' fun v st' hv ho hn => ⟨fun _ => .inl hv.2, ?_⟩
 ·rintro b (h | ⟨k, _, h⟩)
  ·exact hr.sim.fro b h
  ·exact (hr.sim.lt h).2
 ·exact h _ _ _ _ ((hr.le ho hv.2).putO (.f _ _ (flatT_rel hf hv.1)) d)

end

abbrev TQ := Exit → TEnv → TS → Prop

def LiftQ (C : Cx) (Q : TQ) : Exit → Env → St → Prop := fun e venv st => ∃ env σ Φ ν, RelT C env σ venv st Φ ν ∧ Q e env σ

def TwS (C : Cx) (s : S) (Q : TQ) (env : TEnv) (σ : TS) : Prop := ∀ venv st Φ ν, RelT C env σ venv st Φ ν → wpS C.P C.w0 s (LiftQ C Q) venv st

def thenT (K : TK) (Q : TQ) : TQ
 | .normal, env, σ => K env σ
 | e, env, σ => Q e env σ

def inBlockT (id : Nat) (Q : TQ) : TQ
 | .exit id', env, σ => if id' = id then Q .normal env σ else Q (.exit id') env σ
 | e, env, σ => Q e env σ

def tresOne (env : TEnv) (σ : TS) : Nat × Option (Nat × Bool) → Option TV
 | (t, none) => look t env
 | (t, some (n, agg)) => match look t env with
  | some (.p k o) => match σ.get k with
   | some (.cells cs _) => cutT agg n o cs
   | _ => none
  | _ => none

def tresAll (env : TEnv) (σ : TS) : List (Nat × Option (Nat × Bool)) → Option (List TV)
 | [] => some []
 | r :: rs => match tresOne env σ r with
  | some v => match tresAll env σ rs with
   | some l => some (v :: l)
   | none => none
  | none => none

def tresV : List TV → TV
 | [v] => v
 | vs => .tup vs

def retT (rs : List (Nat × Option (Nat × Bool))) (Q : TV → TS → Prop) : TQ
 | .normal, env, σ | .ret, env, σ => ∃ vs, tresAll env σ rs = some vs ∧ Q (tresV vs) σ
 | _, _, _ => False

def targEnv : Nat → List TV → TEnv
 | _, [] => []
 | i, v :: r => (i, v) :: targEnv (i + 1) r

section
variable {C : Cx} {Q : TQ} {env : TEnv} {σ : TS}

theorem ts_weak {s : S} {env' : TEnv} {σ' : TS} (hw : Weak C env σ env' σ') (h : TwS C s Q env' σ') : TwS C s Q env σ :=
 fun venv st Φ ν hr => let ⟨_, _, h1⟩ := hw venv st Φ ν hr; h _ _ _ _ h1
theorem ts_reg {rs : List ROp} (h : TwR C rs (Q .normal) env σ) : TwS C (.reg rs) Q env σ := h
theorem ts_nop (h : Q .normal env σ) : TwS C .nop Q env σ := fun _ _ Φ ν hr => ⟨env, σ, Φ, ν, hr, h⟩
theorem ts_ret (h : Q .ret env σ) : TwS C .ret Q env σ := fun _ _ Φ ν hr => ⟨env, σ, Φ, ν, hr, h⟩
theorem ts_exit {i : Nat} (h : Q (.exit i) env σ) : TwS C (.exit i) Q env σ := fun _ _ Φ ν hr => ⟨env, σ, Φ, ν, hr, h⟩

theorem ts_mono {s : S} {Q' : TQ} (hq : ∀ e env σ, Q e env σ → Q' e env σ) (h : TwS C s Q env σ) : TwS C s Q' env σ :=
 fun venv st Φ ν hr => wpS_mono s _ _ (fun e _ _ ⟨env, σ, Φ, ν, hr, h⟩ => ⟨env, σ, Φ, ν, hr, hq _ _ _ h⟩) _ _ (h venv st Φ ν hr)

theorem ts_block {i : Nat} {a : S} (h : TwS C a (inBlockT i Q) env σ) : TwS C (.block i a) Q env σ := by
 intro venv st Φ ν hr
 refine wpS_mono a _ _ ?_ _ _ (h venv st Φ ν hr)
 rintro e venv' st' ⟨env', σ', Φ', ν', hr', hq⟩
 cases e with
 | exit j =>
  simp only [inBlockT] at hq
  simp only [inBlockE]
  split at hq
  ·rename_i e; rw [if_pos e]; exact ⟨_, _, _, _, hr', hq⟩
  ·rename_i e; rw [if_neg e]; exact ⟨_, _, _, _, hr', hq⟩
 | _ => exact ⟨_, _, _, _, hr', hq⟩

theorem ts_cond {c : Operand} {a b : S} {t : Bool} (hc : tO env c = some (.v (.bool t))) (h1 : t = true → TwS C a Q env σ) (h2 : t = false → TwS C b Q env σ) : TwS C (.cond c a b) Q env σ := by
 intro venv st Φ ν hr
 obtain ⟨_, e1, e2⟩ := tO_sound hr.env hc
 obtain ⟨rfl, _⟩ := e2.v_inv
 exact wq_cond e1 (fun h => h1 h _ _ _ _ hr) (fun h => h2 h _ _ _ _ hr)
theorem qT {c : Operand} {a b : S} {t : Bool} (hc : tO env c = some (.v (.bool t))) (ht : t = true) (h1 : TwS C a Q env σ) : TwS C (.cond c a b) Q env σ := ts_cond hc (fun _ => h1) fun h => by rw [ht] at h; cases h
theorem qF {c : Operand} {a b : S} {t : Bool} (hc : tO env c = some (.v (.bool t))) (ht : t = false) (h1 : TwS C b Q env σ) : TwS C (.cond c a b) Q env σ := ts_cond hc (fun h => by rw [ht] at h; cases h) fun _ => h1
theorem ts_seq {a b : S} (h : ∀ K : TK, (∀ env σ, TwS C b Q env σ → K env σ) → (∀ e1 s1 e2 s2, Weak C e1 s1 e2 s2 → TwS C b Q e2 s2 → K e1 s1) → TwS C a (thenT K Q) env σ) : TwS C (.seq a b) Q env σ := by
 intro venv st Φ ν hr
 have := h (fun env σ => TwS C b Q env σ) (fun _ _ h => h) (fun _ _ _ _ hw h => ts_weak hw h) venv st Φ ν hr
 refine wpS_mono a _ _ ?_ _ _ this
 rintro e venv' st' ⟨env', σ', Φ', ν', hr', hq⟩
 cases e with
 | normal => exact hq _ _ _ _ hr'
 | _ => exact ⟨_, _, _, _, hr', hq⟩

theorem ts_loop {a : S} (I : Nat → TEnv → TS → Prop) (n : Nat) {env0 : TEnv} {σ0 : TS} (hw : Weak C env σ env0 σ0) (h0 : I n env0 σ0)
  (h : ∀ m env σ, I m env σ → TwS C a (thenT (fun env' σ' => ∃ m' env2 σ2, m' < m ∧ Weak C env' σ' env2 σ2 ∧ I m' env2 σ2) Q) env σ) : TwS C (.loop a) Q env σ := by
 intro venv st Φ ν hr
 obtain ⟨Φ1, ν1, hr1⟩ := hw venv st Φ ν hr
 refine wq_loop (fun m venv st => ∃ env σ Φ ν, RelT C env σ venv st Φ ν ∧ I m env σ) n ⟨_, _, _, _, hr1, h0⟩ ?_
 rintro m venv st ⟨env, σ, Φ, ν, hr, hI⟩
 refine wpS_mono a _ _ ?_ _ _ (h m env σ hI venv st Φ ν hr)
 rintro e venv' st' ⟨env', σ', Φ', ν', hr', hq⟩
 cases e with
 | normal =>
  obtain ⟨m', e2, s2, hm, hw', hI'⟩ := hq
  obtain ⟨Φ2, ν2, hr2⟩ := hw' _ _ _ _ hr'
  exact ⟨m', hm, _, _, _, _, hr2, hI'⟩
 | _ => exact ⟨_, _, _, _, hr', hq⟩

theorem ts_bound {s : S} {t sz : Nat} {xs : List (List TV)} (hx : look t env = some (.lst sz xs)) (h : xs.length < 9223372036854775808 → TwS C s Q env σ) : TwS C s Q env σ := by
 intro venv st Φ ν hr
 obtain ⟨v, h1, h2⟩ := hr.env t _ hx
 cases h2.lst_inv with
 | lst _ _ a n c vs e1 e2 => exact h (by omega) venv st Φ ν hr

theorem targEnv_look : ∀ (args : List TV) (i t : Nat), look t (targEnv i args) = if i ≤ t then args[t - i]? else none
 | [], i, t => by simp [targEnv, look]
 | v :: r, i, t => by
  rw [targEnv, look_cons, targEnv_look r (i + 1) t]
  by_cases h : t = i
  ·subst h; simp
  ·rw [if_neg h]
   by_cases h2 : i ≤ t
   ·rw [if_pos h2, if_pos (by omega), show t - i = t - (i + 1) + 1 by omega, List.getElem?_cons_succ]
   ·rw [if_neg h2, if_neg (by omega)]

theorem tresOne_sound {venv : Env} {st : St} {Φ : Nat → Prop} {ν : Nu} (hr : RelT C env σ venv st Φ ν) {r : Nat × Option (Nat × Bool)} {x : TV} (h : tresOne env σ r = some x) : ∃ v, resOne C.w0 venv st r = some v ∧ TRel C.w0 st Φ ν x v := by
 obtain ⟨t, o⟩ := r
 cases o with
 | none => exact hr.env t x h
 | some na =>
  obtain ⟨n, agg⟩ := na
  simp only [tresOne] at h
  split at h
  ·rename_i k o hk
   split at h
   ·rename_i cs ty hg
    obtain ⟨v, h1, h2⟩ := tev_sound (P := C.P) (w0 := C.w0) (l := .ld n agg (.tmp t)) (σ := σ) (show tev env σ (.ld n agg (.tmp t)) = some x by simp only [tev, tO, hk, hg]; exact h) venv st Φ ν hr.sim hr.env
    refine ⟨v, ?_, h2⟩
    simp only [LOp.eval, evalO] at h1
    simp only [resOne]
    exact h1
   ·cases h
  ·cases h

theorem tresAll_sound {venv : Env} {st : St} {Φ : Nat → Prop} {ν : Nu} (hr : RelT C env σ venv st Φ ν) : ∀ {rs : List (Nat × Option (Nat × Bool))} {l : List TV}, tresAll env σ rs = some l → ∃ vs, resAll C.w0 venv st rs = some vs ∧ RelL C.w0 st Φ ν l vs
 | [], l, h => by cases h; exact ⟨[], rfl, .nil⟩
 | r :: rs, l, h => by
  simp only [tresAll] at h
  split at h
  ·rename_i x hx
   split at h
   ·rename_i l' hl
    cases h
    obtain ⟨v, h1, h2⟩ := tresOne_sound hr hx
    obtain ⟨vs, h3, h4⟩ := tresAll_sound hr hl
    exact ⟨v :: vs, by simp [resAll, h1, h3], .cons h2 h4⟩
   ·cases h
  ·cases h

theorem resV_rel {w0 : World} {st : St} {Φ : Nat → Prop} {ν : Nu} {l : List TV} {vs : List Value} (h : RelL w0 st Φ ν l vs) : TRel w0 st Φ ν (tresV l) (resV vs) := by
 match l, vs, h with
 | [], [], h => exact TRel.tup_of h
 | [x], [v], h => exact h.rel 0 x v rfl rfl
 | x :: y :: l, v :: u :: vs, h => exact TRel.tup_of h
 | [], _ :: _, h => have := h.len; simp at this
 | [_], [], h => have := h.len; simp at this
 | [_], _ :: _ :: _, h => have := h.len; simp at this
 | _ :: _ :: _, [], h => have := h.len; simp at this
 | _ :: _ :: _, [_], h => have := h.len; simp at this

theorem Pure.of {P : Program} {G : World → Prop} (hm : P.follows .mixedOrders = true) {f : FuncId} {fn : Func} (hf : P.funcs[f]? = some fn) (hname : (fn.name == "runtime.NumGoroutine") = false) {fs : FS} (hc : compF P fn = some fs) {args : List TV} (hl : args.length = fs.params) {r : TV}
  (h : ∀ C : Cx, C.P = P → C.G = G → C.pins = [] → TwS C fs.body (retT fs.results fun v σ => Fz σ v r) (targEnv 0 args) ⟨[], 0⟩) : Pure P G f args r := by
 intro w0 st Φ vargs hg ho hΦ hv
 have hC : ∀ venv st' Φ' ν', RelT ⟨P, G, w0, hg, st, Φ, fun _ => False, fun _ => none, []⟩ (targEnv 0 args) ⟨[], 0⟩ venv st' Φ' ν' → wpS P w0 fs.body (LiftQ ⟨P, G, w0, hg, st, Φ, fun _ => False, fun _ => none, []⟩ (retT fs.results fun v σ => Fz σ v r)) venv st' := h ⟨P, G, w0, hg, st, Φ, fun _ => False, fun _ => none, []⟩ rfl rfl rfl
 have hlen : vargs.length = fs.params := by rw [← hl, hv.len]
 refine DCalls.of hm hf hname hc hlen ?_
 have hrel : RelT ⟨P, G, w0, hg, st, Φ, fun _ => False, fun _ => none, []⟩ (targEnv 0 args) ⟨[], 0⟩ (argEnv 0 vargs) st Φ fun _ => none := by
  refine ⟨⟨ho, fun i j c h => (by cases h), fun k b h => (by cases h), fun i c h => (by cases h), hΦ, fun _ _ => rfl, fun k o h => (by cases h)⟩, ?_, Nat.le_refl _, fun _ _ _ => rfl, fun k b h => (by cases h), fun j hj => (by cases hj), fun _ h => h, fun _ h => .inl h⟩
  intro t x ht
  rw [targEnv_look] at ht
  simp only [Nat.zero_le, if_true, Nat.sub_zero] at ht
  have hlt : t < vargs.length := by rw [← hv.len]; exact (List.getElem?_eq_some_iff.1 ht).1
  refine ⟨vargs[t], ?_, .f _ _ (hv.rel t x _ ht (List.getElem?_eq_getElem hlt))⟩
  rw [argEnv_lookup]
  simp [hlt]
 refine wpS_mono _ _ _ ?_ _ _ (hC _ _ _ _ hrel)
 rintro e venv' st' ⟨env', σ', Φ', ν', hr', hq⟩
 have fin : (∃ vs, tresAll env' σ' fs.results = some vs ∧ Fz σ' (tresV vs) r) → (match resAll w0 venv' st' fs.results with | some vs => FRel w0 st' (fun b => Φ b ∨ (st.next ≤ b ∧ b < st'.next)) r (resV vs) ∧ st.le st' | none => False) := by
  rintro ⟨l, h1, h2⟩
  obtain ⟨vs, h3, h4⟩ := tresAll_sound hr' h1
  rw [show resAll w0 venv' st' fs.results = some vs from h3]
  refine ⟨(fz_sound hr'.sim h2 (resV_rel h4)).stable ?_ fun _ _ => rfl, hr'.next, fun b hb => hr'.frame b hb (fun h => h)⟩
  rintro b (h | ⟨k, _, h⟩)
  ·rcases hr'.phi b h with h1 | h1 | h1
   ·exact .inl h1
   ·exact h1.elim
   ·exact .inr ⟨h1, hr'.sim.fro b h⟩
  ·rcases hr'.mine k b h with h1 | h1
   ·exact h1.elim
   ·exact .inr ⟨h1, (hr'.sim.lt h).2⟩
 cases e with
 | normal => exact fin hq
 | ret => exact fin hq
 | _ => exact hq.elim
end
end Go.Proofs.YtnphhelbianjpaaGreatDoor.V
namespace Go.Proofs.YtnphhelbianjpaaGreatDoor.V
open Go Go.RowKit

def Lent (ν : Nu) (b : Nat) : Prop := ∃ k, ν k = some (some b)

def TC (P : Program) (G : World → Prop) (f : FuncId) (args : List TV) (σ : TS) (pins : List Nat) (Q : TV → TS → Prop) : Prop :=
 ∀ (w0 : World) (st : St) (Φ : Nat → Prop) (ν : Nu) (vargs : List Value), G w0 → TSim w0 st Φ ν σ → RelL w0 st Φ ν args vargs → (∀ j ∈ pins, ν j ≠ none) →
  DCalls P w0 f vargs st fun v st' => ∃ Φ' ν' r σ', TSim w0 st' Φ' ν' σ' ∧ TRel w0 st' Φ' ν' r v ∧ Q r σ' ∧ (∀ b, Φ b → Φ' b) ∧ (∀ b, Φ' b → Φ b ∨ Lent ν b ∨ st.next ≤ b) ∧
   (∀ k b, ν' k = some (some b) → Lent ν b ∨ st.next ≤ b) ∧ (∀ b, b < st.next → ¬ Lent ν b → st'.blk b = st.blk b) ∧ (∀ j ∈ pins, ν' j = ν j) ∧ st.next ≤ st'.next

def retW (C : Cx) (rs : List (Nat × Option (Nat × Bool))) (Q : TV → TS → Prop) : TQ
 | .normal, env, σ | .ret, env, σ => ∃ vs, tresAll env σ rs = some vs ∧ ∃ r σ', Weak C [(0, tresV vs)] σ [(0, r)] σ' ∧ Q r σ'
 | _, _, _ => False

theorem TC.of {P : Program} {G : World → Prop} (hm : P.follows .mixedOrders = true) {f : FuncId} {fn : Func} (hf : P.funcs[f]? = some fn) (hname : (fn.name == "runtime.NumGoroutine") = false) {fs : FS} (hc : compF P fn = some fs) {args : List TV} (hl : args.length = fs.params)
  {σ : TS} {pins : List Nat} {Q : TV → TS → Prop} (h : ∀ C : Cx, C.P = P → C.G = G → C.pins = pins → TwS C fs.body (retW C fs.results Q) (targEnv 0 args) σ) : TC P G f args σ pins Q := by
 intro w0 st Φ ν vargs hg hs hv hp
 obtain ⟨C, hC⟩ : ∃ C : Cx, C = ⟨P, G, w0, hg, st, Φ, Lent ν, ν, pins⟩ := ⟨_, rfl⟩
 have hC2 := h C (by rw [hC]) (by rw [hC]) (by rw [hC])
 have hlen : vargs.length = fs.params := by rw [← hl, hv.len]
 refine DCalls.of hm hf hname hc hlen ?_
 have hrel : RelT C (targEnv 0 args) σ (argEnv 0 vargs) st Φ ν := by
  subst hC
  refine ⟨hs, ?_, Nat.le_refl _, fun _ _ _ => rfl, fun k b h => .inl ⟨k, h⟩, fun j hj => ⟨rfl, hp j hj⟩, fun _ h => h, fun _ h => .inl h⟩
  intro t x ht
  rw [targEnv_look] at ht
  simp only [Nat.zero_le, if_true, Nat.sub_zero] at ht
  have hlt : t < vargs.length := by rw [← hv.len]; exact (List.getElem?_eq_some_iff.1 ht).1
  refine ⟨vargs[t], ?_, hv.rel t x _ ht (List.getElem?_eq_getElem hlt)⟩
  rw [argEnv_lookup]
  simp [hlt]
 have hw := hC2 _ _ _ _ hrel
 rw [show C.P = P by rw [hC], show C.w0 = w0 by rw [hC]] at hw
 refine wpS_mono _ _ _ ?_ _ _ hw
 rintro e venv' st' ⟨env', σ', Φ', ν', hr', hq⟩
 have fin : (∃ vs, tresAll env' σ' fs.results = some vs ∧ ∃ r σ2, Weak C [(0, tresV vs)] σ' [(0, r)] σ2 ∧ Q r σ2) → (match resAll w0 venv' st' fs.results with
   | some vs => ∃ Φ' ν' r σ', TSim w0 st' Φ' ν' σ' ∧ TRel w0 st' Φ' ν' r (resV vs) ∧ Q r σ' ∧ (∀ b, Φ b → Φ' b) ∧ (∀ b, Φ' b → Φ b ∨ Lent ν b ∨ st.next ≤ b) ∧
    (∀ k b, ν' k = some (some b) → Lent ν b ∨ st.next ≤ b) ∧ (∀ b, b < st.next → ¬ Lent ν b → st'.blk b = st.blk b) ∧ (∀ j ∈ pins, ν' j = ν j) ∧ st.next ≤ st'.next
   | none => False) := by
  rintro ⟨l, h1, r, σ2, hw2, hq2⟩
  obtain ⟨vs, h3, h4⟩ := tresAll_sound hr' h1
  rw [show C.w0 = w0 by rw [hC]] at h3
  rw [h3]
  have hr1 : RelT C [(0, tresV l)] σ' [(0, resV vs)] st' Φ' ν' := by
   refine ⟨hr'.sim, ?_, hr'.next, hr'.frame, hr'.mine, hr'.pin, hr'.phi0, hr'.phi⟩
   intro t x ht
   rw [look_cons] at ht
   split at ht
   ·rename_i e
    cases ht; subst e
    exact ⟨resV vs, rfl, resV_rel h4⟩
   ·cases ht
  obtain ⟨Φ2, ν2, hr2⟩ := hw2 _ _ _ _ hr1
  obtain ⟨v, e1, e2⟩ := hr2.env 0 r rfl
  cases e1
  subst hC
  exact ⟨Φ2, ν2, r, σ2, hr2.sim, e2, hq2, hr2.phi0, hr2.phi, hr2.mine, hr2.frame, fun j hj => (hr2.pin j hj).1, hr2.next⟩
 cases e with
 | normal => exact fin hq
 | ret => exact fin hq
 | _ => exact hq.elim

section
variable {C : Cx} {K : TK} {env : TEnv} {σ : TS} {rest : List ROp} {d : Option Nat} {ks : List LOp} {q : Bool}

def BackOk (σ : TS) (bk : List (Nat × Nat)) (pins : List Nat) (bk2 : List (Nat × Nat)) : Prop := ∀ i j, look i bk2 = some j → i = σ.next + j ∨ (j ∈ pins ∧ look j bk = some i)

def RestOk (σ : TS) (bk : List (Nat × Nat)) (objs : List (Nat × TObj)) : Prop := ∀ k o, look k objs = some o → σ.get k = some o ∧ ∀ p ∈ bk, p.2 ≠ k

def restL (bk : List (Nat × Nat)) : List (Nat × TObj) → List (Nat × TObj)
 | [] => []
 | (k, o) :: r => bif bk.any (fun p => Nat.beq p.2 k) then restL bk r else (k, o) :: restL bk r

theorem look_mem {α : Type} : ∀ {l : List (Nat × α)} {t : Nat} {q : α}, look t l = some q → (t, q) ∈ l
 | [], t, q, h => by cases h
 | (d, x) :: r, t, q, h => by
  rw [look_cons] at h
  split at h
  ·cases h; subst t; exact List.mem_cons_self ..
  ·exact List.mem_cons_of_mem _ (look_mem h)

theorem restL_look (bk : List (Nat × Nat)) : ∀ {l : List (Nat × TObj)} {k : Nat} {o : TObj}, look k (restL bk l) = some o → look k l = some o ∧ ∀ p ∈ bk, p.2 ≠ k
 | [], k, o, h => by cases h
 | (k0, o0) :: r, k, o, h => by
  simp only [restL] at h
  cases hb : bk.any (fun p => Nat.beq p.2 k0) with
  | true =>
   rw [hb, cond_true] at h
   obtain ⟨h1, h2⟩ := restL_look bk h
   refine ⟨?_, h2⟩
   rw [look_cons, if_neg (fun e => ?_)]
   ·exact h1
   ·subst e
    obtain ⟨p, hp, hq⟩ := List.any_eq_true.1 hb
    exact h2 p hp (Nat.eq_of_beq_eq_true hq)
  | false =>
   rw [hb, cond_false, look_cons] at h
   split at h
   ·rename_i e
    cases h; subst e
    refine ⟨by rw [look_cons, if_pos rfl], fun p hp e => ?_⟩
    rw [List.any_eq_false] at hb
    have := hb p hp
    rw [e] at this
    simp at this
   ·rename_i e
    obtain ⟨h1, h2⟩ := restL_look bk h
    exact ⟨by rw [look_cons, if_neg e]; exact h1, h2⟩
theorem restOk (bk : List (Nat × Nat)) : RestOk σ bk (restL bk σ.objs) := fun _ _ h => restL_look bk h

theorem TSim.ren {w0 : World} {st : St} {Φ : Nat → Prop} {ν : Nu} (hs : TSim w0 st Φ ν σ) {bk : List (Nat × Nat)} {σ' : TS} (hb : injB bk = true) (hn : bk.all (fun p => Nat.blt p.1 σ'.next) = true) (hS : RenS bk σ σ'.objs) : TSim w0 st Φ (fun k => (look k bk).bind ν) σ' := by
 have bnd : ∀ {k r}, (look k bk).bind ν = some r → ∃ j, look k bk = some j ∧ ν j = some r := by
  intro k r h
  cases hk : look k bk with
  | none => simp [hk] at h
  | some j => simp [hk] at h; exact ⟨j, rfl, h⟩
 refine ⟨hs.ok, ?_, ?_, ?_, hs.fro, ?_, ?_⟩
 ·intro i j c h1 h2 h3 h4
  obtain ⟨o1, h1⟩ := Option.isSome_iff_exists.1 h1
  obtain ⟨o2, h2⟩ := Option.isSome_iff_exists.1 h2
  obtain ⟨a, oa, a1, a2, _⟩ := renS_get hS h1
  obtain ⟨b, ob, b1, b2, _⟩ := renS_get hS h2
  simp only [a1, b1, Option.bind_some] at h3 h4
  have := hs.inj a b c (by rw [a2]; rfl) (by rw [b2]; rfl) h3 h4
  subst this
  exact injB_inj hb a1 b1
 ·intro i c h
  obtain ⟨j, _, h2⟩ := bnd h
  exact hs.own j c h2
 ·intro i c h1 h2
  obtain ⟨o1, h1⟩ := Option.isSome_iff_exists.1 h1
  obtain ⟨a, oa, a1, a2, _⟩ := renS_get hS h1
  simp only [a1, Option.bind_some] at h2
  exact hs.npf a c (by rw [a2]; rfl) h2
 ·intro k hk
  cases hl : look k bk with
  | none => rfl
  | some j =>
   have := List.all_eq_true.1 hn _ (look_mem hl)
   simp [Nat.blt] at this
   omega
 ·intro k o' hk
  obtain ⟨a, oa, a1, a2, a3⟩ := renS_get hS hk
  show ObjAt w0 st Φ _ o' ((look k bk).bind ν)
  rw [a1, Option.bind_some]
  rcases hs.has a2 with ⟨q1, sz, ty, rfl⟩ | ⟨c, bk', q1, q2, q3⟩
  ·rw [q1]
   cases a3
   exact ⟨sz, ty, rfl⟩
  ·rw [q1]
   exact ⟨bk', q2, renO_sound a3 q3⟩

theorem look_app {α : Type} : ∀ (a b : List (Nat × α)) (k : Nat), look k (a ++ b) = (look k a).orElse fun _ => look k b
 | [], b, k => by simp [look]
 | (d, x) :: r, b, k => by
  rw [List.cons_append, look_cons, look_cons, look_app r b k]
  split <;> simp

def farT (env : TEnv) (σ : TS) (bk : List (Nat × Nat)) : LOp → Bool
 | .ld n agg x => match tO env x with
  | some (.fp cs o) => (cutT agg n o cs).isSome
  | some (.p j o) => match σ.get j with
   | some (.cells cs _) => (cutT agg n o cs).isSome && bk.all (fun p => !(Nat.beq p.2 j))
   | _ => false
  | some (.tup _) => true
  | _ => false
 | _ => false
theorem far_sound {P : Program} {w0 : World} {venv : Env} {st st' : St} {Φ : Nat → Prop} {ν : Nu} {bk : List (Nat × Nat)} (hs : TSim w0 st Φ ν σ) (he : TE w0 st Φ ν env venv) (h0 : ∀ b, Φ b → st'.blk b = st.blk b)
  (h1 : ∀ j o b, σ.get j = some o → (∀ p ∈ bk, p.2 ≠ j) → ν j = some (some b) → st'.blk b = st.blk b) {l : LOp} (hl : farT env σ bk l = true) :
  ∀ u, l.eval P w0 venv st = some u → l.eval P w0 venv st' = some u := by
 have same : ∀ {l : LOp}, l.eval P w0 venv st' = l.eval P w0 venv st → ∀ u, l.eval P w0 venv st = some u → l.eval P w0 venv st' = some u := fun h u hu => by rw [h]; exact hu
 cases l with
 | ld n agg x =>
  simp only [farT] at hl
  split at hl
  ·rename_i cs o hx
   refine same ?_
   obtain ⟨_, e3, e4⟩ := tO_sound he hx
   obtain ⟨b', o', vs, rfl, f1, f2, f3⟩ := e4.fp_inv
   simp only [LOp.eval, e3]
   rw [cellsAt_block]
   intro hb'
   simp only at hb' ⊢
   rcases f1 with h | h
   ·omega
   ·exact h0 _ h
  ·rename_i j o hx
   split at hl
   ·rename_i cs ty hj
    rw [Bool.and_eq_true] at hl
    obtain ⟨hl1, hl2⟩ := hl
    refine same ?_
    obtain ⟨_, e3, e4⟩ := tO_sound he hx
    obtain ⟨b', f1, rfl⟩ := e4.p_inv
    simp only [LOp.eval, e3]
    rw [cellsAt_block]
    intro _
    simp only
    refine h1 j _ _ hj (fun p hp e => ?_) f1
    have := List.all_eq_true.1 hl2 p hp
    rw [e] at this
    simp at this
   ·cases hl
  ·rename_i vs hx
   intro u hu
   obtain ⟨_, e3, e4⟩ := tO_sound he hx
   obtain ⟨vs, rfl, _⟩ := e4.tup_inv
   simp only [LOp.eval, e3] at hu
   cases hu
  ·cases hl
 | _ => cases hl

theorem tr_mcall {f : FuncId} {args : List Operand} {l lc : List TV} {σc : TS} {pins : List Nat} {Q : TV → TS → Prop} (ha : targs env args = some l) (bk : List (Nat × Nat)) (hb : injB bk = true) (hn : bk.all (fun p => Nat.blt p.1 σc.next) = true) (hL : RenL bk l lc)
  (hS : RenS bk σ σc.objs) (hT : TC C.P C.G f lc σc pins Q) (hlive : ∀ p ∈ bk, (σ.get p.2).isSome = true) (hpin : ∀ j ∈ pins, (look j bk).isSome = true) (robjs : List (Nat × TObj)) (hR : RestOk σ bk robjs) (hks : q = true → ks.all (farT env σ bk) = true)
  (h : ∀ r σ', Q r σ' → ∃ bk2 r' objs, BackOk σ bk pins bk2 ∧ injB bk2 = true ∧ RenV bk2 r r' ∧ RenS bk2 σ' objs ∧ TwR C rest K (putT d r' env) ⟨objs ++ robjs, σ.next + σ'.next⟩) :
  TwR C (⟨d, none, .call (.fn f) args, q, ks⟩ :: rest) K env σ := by
 intro venv st Φ ν hr
 refine ⟨fun _ => ?_, fun h => by simp at h⟩
 obtain ⟨vs, h1, h2⟩ := targs_sound hr.env ha
 simp only [COp.step, evalC, h1, Option.map_some]
 have hs := hr.sim
 -- the callee's view
 have hsc := hs.ren hb hn hS
 have hlive' : ∀ {j k}, look j bk = some k → ∃ o, σ.get k = some o := fun hj => Option.isSome_iff_exists.1 (hlive _ (look_mem hj))
 have hval : ∀ {k o}, σ.get k = some o → ν k ≠ none := by
  intro k o hk e
  have := hs.obj k o hk
  rw [e] at this
  exact this
 have hlt : ∀ {k r}, ν k = some r → k < σ.next := by
  intro k r hk
  rcases Nat.lt_or_ge k σ.next with h | h
  ·exact h
  ·rw [hs.dom k h] at hk; cases hk
 have hp0 : ∀ j ∈ pins, (fun k => (look k bk).bind ν) j ≠ none := by
  intro j hj
  obtain ⟨k, hk⟩ := Option.isSome_iff_exists.1 (hpin j hj)
  obtain ⟨o, ho⟩ := hlive' hk
  simp only [hk, Option.bind_some]
  exact hval ho
 refine (hT C.w0 st Φ _ vs C.hG hsc (renL_sound hL h2) hp0).mono' ?_
 rintro v st' ⟨Φ', νc, r, σ', hs', hrv, hq, q1, q2, q3, q4, q5, q6⟩ ho' _
 obtain ⟨bk2, r', objs, b1, b2, b4, b5, hk⟩ := h r σ' hq
 -- what is lent
 have hlent : ∀ {b}, Lent (fun k => (look k bk).bind ν) b → ∃ j k o, look j bk = some k ∧ σ.get k = some o ∧ ν k = some (some b) := by
  rintro b ⟨j, hj⟩
  cases hk : look j bk with
  | none => simp [hk] at hj
  | some k =>
   simp only [hk, Option.bind_some] at hj
   obtain ⟨o, ho⟩ := hlive' hk
   exact ⟨j, k, o, hk, ho, hj⟩
 have hnotΦ : ∀ {b}, Lent (fun k => (look k bk).bind ν) b → ¬ Φ b := by
  intro b hb
  obtain ⟨j, k, o, _, h2, h3⟩ := hlent hb
  exact hs.npf k b (by rw [h2]; rfl) h3
 have hΦs : ∀ b, Φ b → st'.blk b = st.blk b := fun b hb => q4 b (hs.fro b hb) (fun hl => hnotΦ hl hb)
 have hrest : ∀ {i o b}, σ.get i = some o → (∀ p ∈ bk, p.2 ≠ i) → ν i = some (some b) → ¬ Lent (fun k => (look k bk).bind ν) b := by
  intro i o b hi hp hv hl
  obtain ⟨j, k, o', c1, c2, c3⟩ := hlent hl
  have := hs.inj k i b (by rw [c2]; rfl) (by rw [hi]; rfl) c3 hv
  exact hp _ (look_mem c1) this
 refine ⟨fun hqt => .inr fun l hl => far_sound hs hr.env hΦs (fun j o b hj hp hv => q4 b (hs.lt hv).2 (hrest hj hp hv)) (List.all_eq_true.1 (hks hqt) l hl), ?_⟩
 let νn : Nu := fun i => if i < σ.next then ν i else νc (i - σ.next)
 have hνe : ∀ k r, ν k = some r → νn k = some r := fun k r hk => by
  show (if k < σ.next then ν k else _) = _
  rw [if_pos (hlt hk)]; exact hk
 have hback : ∀ {i j}, look i bk2 = some j → νn i = νc j := by
  intro i j hi
  rcases b1 i j hi with rfl | ⟨hj, hji⟩
  ·show (if σ.next + j < σ.next then _ else νc (σ.next + j - σ.next)) = _
   rw [if_neg (by omega), show σ.next + j - σ.next = j by omega]
  ·have e : νc j = ν i := by rw [q5 j hj]; simp [hji]
   obtain ⟨o, ho⟩ := hlive' hji
   cases hv : ν i with
   | none => exact absurd hv (hval ho)
   | some q => rw [hνe i q hv, e, hv]
 have hνb : ∀ k r, (look k bk2).bind νc = some r → νn k = some r := by
  intro k r hk
  cases hl : look k bk2 with
  | none => simp [hl] at hk
  | some j => simp only [hl, Option.bind_some] at hk; rw [hback hl]; exact hk
 have hget : ∀ {i o}, look i (objs ++ robjs) = some o → (∃ j oc, look i bk2 = some j ∧ σ'.get j = some oc ∧ RenO bk2 oc o) ∨ (σ.get i = some o ∧ ∀ p ∈ bk, p.2 ≠ i) := by
  intro i o hi
  rw [look_app] at hi
  cases ho : look i objs with
  | none => rw [ho] at hi; exact .inr (hR i o hi)
  | some o' =>
   rw [ho] at hi; cases hi
   obtain ⟨j, oc, c1, c2, c3⟩ := renS_get b5 ho
   exact .inl ⟨j, oc, c1, c2, c3⟩
 have hνn : ∀ {i o b}, σ.get i = some o → νn i = some (some b) → ν i = some (some b) := by
  intro i o b hi hv
  cases hq : ν i with
  | none => exact absurd hq (hval hi)
  | some q => rw [hνe i q hq] at hv; exact hv
 have hsim : TSim C.w0 st' Φ' νn ⟨objs ++ robjs, σ.next + σ'.next⟩ := by
  refine ⟨ho', ?_, ?_, ?_, hs'.fro, ?_, ?_⟩
  ·intro i j b hi hj hvi hvj
   obtain ⟨oi, hi⟩ := Option.isSome_iff_exists.1 hi
   obtain ⟨oj, hj⟩ := Option.isSome_iff_exists.1 hj
   rcases hget hi with ⟨ji, ci, c1, c2, _⟩ | ⟨c1, c2⟩ <;> rcases hget hj with ⟨jj, cj, d1, d2, _⟩ | ⟨d1, d2⟩
   ·rw [hback c1] at hvi
    rw [hback d1] at hvj
    have := hs'.inj ji jj b (by rw [c2]; rfl) (by rw [d2]; rfl) hvi hvj
    subst this
    exact injB_inj b2 c1 d1
   ·rw [hback c1] at hvi
    have e := hνn d1 hvj
    rcases q3 ji b hvi with h | h
    ·exact absurd h (hrest d1 d2 e)
    ·have := (hs.lt e).2; omega
   ·rw [hback d1] at hvj
    have e := hνn c1 hvi
    rcases q3 jj b hvj with h | h
    ·exact absurd h (hrest c1 c2 e)
    ·have := (hs.lt e).2; omega
   ·exact hs.inj i j b (by rw [c1]; rfl) (by rw [d1]; rfl) (hνn c1 hvi) (hνn d1 hvj)
  ·intro i b hv
   by_cases hi : i < σ.next
   ·have hv' : ν i = some (some b) := by
     have : (if i < σ.next then ν i else νc (i - σ.next)) = some (some b) := hv
     rwa [if_pos hi] at this
    exact ⟨(hs.lt hv').1, Nat.lt_of_lt_of_le (hs.lt hv').2 q6⟩
   ·have hv' : νc (i - σ.next) = some (some b) := by
     have : (if i < σ.next then ν i else νc (i - σ.next)) = some (some b) := hv
     rwa [if_neg hi] at this
    exact hs'.own _ b hv'
  ·intro i b hi hv
   obtain ⟨oi, hi⟩ := Option.isSome_iff_exists.1 hi
   rcases hget hi with ⟨ji, ci, c1, c2, _⟩ | ⟨c1, c2⟩
   ·rw [hback c1] at hv
    exact hs'.npf ji b (by rw [c2]; rfl) hv
   ·have e := hνn c1 hv
    intro hΦ
    rcases q2 b hΦ with h | h | h
    ·exact hs.npf i b (by rw [c1]; rfl) e h
    ·exact hrest c1 c2 e h
    ·have := (hs.lt e).2; omega
  ·intro k hk
   have hk' : σ.next + σ'.next ≤ k := hk
   show (if k < σ.next then ν k else νc (k - σ.next)) = none
   rw [if_neg (by omega)]
   exact hs'.dom _ (by omega)
  ·intro i o hi
   rcases hget hi with ⟨ji, ci, c1, c2, c3⟩ | ⟨c1, c2⟩
   ·show ObjAt C.w0 st' Φ' νn o (νn i)
    rw [hback c1]
    rcases hs'.has c2 with ⟨e1, sz, ty, rfl⟩ | ⟨b, bk', e1, e2, e3⟩
    ·rw [e1]
     cases c3
     exact ⟨sz, ty, rfl⟩
    ·rw [e1]
     exact ⟨bk', e2, (renO_sound c3 e3).stable (fun _ h => h) (fun _ _ => rfl) hνb⟩
   ·show ObjAt C.w0 st' Φ' νn o (νn i)
    rcases hs.has c1 with ⟨e1, sz, ty, rfl⟩ | ⟨b, bk', e1, e2, e3⟩
    ·rw [hνe _ _ e1]
     exact ⟨sz, ty, rfl⟩
    ·rw [hνe _ _ e1]
     exact ⟨bk', by rw [q4 b (hs.lt e1).2 (hrest c1 c2 e1)]; exact e2, e3.stable q1 hΦs hνe⟩
 have hrel : RelT C env ⟨objs ++ robjs, σ.next + σ'.next⟩ venv st' Φ' νn := by
  refine ⟨hsim, hr.env.stable q1 hΦs hνe, Nat.le_trans hr.next q6, ?_, ?_, ?_, fun b hb => q1 b (hr.phi0 b hb), ?_⟩
  ·intro b hb hL'
   rw [q4 b (Nat.lt_of_lt_of_le hb hr.next) (fun hl => ?_)]
   ·exact hr.frame b hb hL'
   ·obtain ⟨j, k, o, c1, c2, c3⟩ := hlent hl
    rcases hr.mine k b c3 with h | h
    ·exact hL' h
    ·omega
  ·intro i b hv
   have hv : (if i < σ.next then ν i else νc (i - σ.next)) = some (some b) := hv
   split at hv
   ·exact hr.mine i b hv
   ·rcases q3 _ b hv with h | h
    ·obtain ⟨j, k, o, c1, c2, c3⟩ := hlent h
     exact hr.mine k b c3
    ·exact .inr (Nat.le_trans hr.next h)
  ·intro j hj
   obtain ⟨p1, p2⟩ := hr.pin j hj
   refine ⟨?_, p2⟩
   cases hv : ν j with
   | none => exact absurd (by rw [← p1]; exact hv) p2
   | some q => rw [hνe j q hv, ← p1, hv]
  ·intro b hb
   rcases q2 b hb with h | h | h
   ·exact hr.phi b h
   ·obtain ⟨j, k, o, c1, c2, c3⟩ := hlent h
    exact .inr (hr.mine k b c3)
   ·exact .inr (.inr (Nat.le_trans hr.next h))
 exact hk _ _ _ _ (hrel.putO ((renV_sound b4 hrv).stable (fun _ h => h) (fun _ _ => rfl) hνb) d)
end
end Go.Proofs.YtnphhelbianjpaaGreatDoor.V
