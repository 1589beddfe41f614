/-
  Walks of functions of the program, and what the laws need of them.
-/
import Derived.Test.YtpeifhiphfpajaaDoorRPL
import Derived.Test.YtpeifhiphfpajaaDoorRPS
set_option linter.all false
set_option linter.unusedSimpArgs false
set_option linter.unusedVariables false
set_option linter.unnecessarySimpa false
namespace Go.Proofs.YtpeifhiphfpajaaDoor
set_option maxRecDepth 20000
open Go Go.Proofs.YtpeifhiphfpajaaDoor.V Go.Proofs
theorem nodup_le {n : Nat} : ∀ {l : List Nat}, l.Nodup → (∀ x ∈ l, x < n) → l.length ≤ n := by
 induction n with
 | zero =>
  intro l _ h
  cases l with
  | nil => exact Nat.le_refl _
  | cons x l => exact absurd (h x (List.mem_cons_self ..)) (Nat.not_lt_zero _)
 | succ n ih =>
  intro l hd h
  have h1 := ih (l := l.erase n) (hd.erase n) (fun x hx => by
   have h2 := (List.Nodup.mem_erase_iff hd).1 hx
   have := h x h2.2
   have := h2.1
   omega)
  have h3 := List.length_erase (l := l) (a := n)
  split at h3 <;> omega
def placed (a : List Ev) : List Nat := (a.filter fun e => decide (0 ≤ e.place)).map fun e => e.place.toNat
theorem placed_app (a b : List Ev) : placed (a ++ b) = placed a ++ placed b := by
 unfold placed; rw [List.filter_append, List.map_append]
theorem placed_s {x : Ev} (h : x.place < 0) : placed [x] = [] := by
 unfold placed; rw [List.filter_cons_of_neg (by rw [decide_eq_true_iff]; omega)]; rfl
theorem placed_p {x : Ev} (h : 0 ≤ x.place) : placed [x] = [x.place.toNat] := by
 unfold placed; rw [List.filter_cons_of_pos (by rw [decide_eq_true_iff]; exact h)]; rfl
theorem placed_mem {a : List Ev} {v : Nat} : v ∈ placed a ↔ ∃ e ∈ a, e.place = (v : Int) := by
 unfold placed
 simp only [List.mem_map, List.mem_filter, decide_eq_true_iff]
 constructor
 ·rintro ⟨e, ⟨h1, h2⟩, h3⟩; exact ⟨e, h1, by omega⟩
 ·rintro ⟨e, h1, h2⟩; exact ⟨e, ⟨h1, by omega⟩, by omega⟩
structure pQ (es a : List Ev) (nt : Nat) (S : List Bool) (L : List Int) : Prop where
 sl : S.length = es.length
 ll : L.length = nt
 s : ∀ v : Nat, v < es.length → (S[v]? = some true ↔ ∃ e ∈ a, e.place = (v : Int))
 l : ∀ (t : Nat) (x : Int), L[t]? = some x → x = 0 ∨ ∃ e ∈ a, e.th = (t : Int) ∧ e.place = x
theorem pQ.start (es : List Ev) (nt : Nat) : pQ es [] nt (List.replicate es.length false) (List.replicate nt 0) := by
 refine ⟨List.length_replicate .., List.length_replicate .., fun v hv => ?_, fun t x h => ?_⟩
 ·rw [List.getElem?_replicate, if_pos hv]
  exact ⟨(fun h => by cases h), fun ⟨e, h, _⟩ => by cases h⟩
 ·rw [List.getElem?_replicate] at h
  split at h
  ·cases h; exact .inl rfl
  ·cases h
theorem pQ.skip {es a : List Ev} {nt : Nat} {S : List Bool} {L : List Int} (h : pQ es a nt S L) {x : Ev} (hx : x.place < 0) : pQ es (a ++ [x]) nt S L := by
 refine ⟨h.sl, h.ll, fun v hv => ?_, fun t y hy => ?_⟩
 ·rw [h.s v hv]
  constructor
  ·rintro ⟨e, h1, h2⟩; exact ⟨e, List.mem_append_left _ h1, h2⟩
  ·rintro ⟨e, h1, h2⟩
   rcases List.mem_append.1 h1 with h1 | h1
   ·exact ⟨e, h1, h2⟩
   ·rw [List.mem_singleton] at h1; subst h1; omega
 ·rcases h.l t y hy with h1 | ⟨e, h1, h2⟩
  ·exact .inl h1
  ·exact .inr ⟨e, List.mem_append_left _ h1, h2⟩
theorem pQ.put {es a : List Ev} {nt : Nat} {S : List Bool} {L : List Int} (h : pQ es a nt S L) {x : Ev} {v t : Nat} (hv : x.place = v) (ht : x.th = t) (hvl : v < es.length) (htl : t < nt) : pQ es (a ++ [x]) nt (S.set v true) (L.set t v) := by
 refine ⟨by rw [List.length_set]; exact h.sl, by rw [List.length_set]; exact h.ll, fun u hu => ?_, fun s y hy => ?_⟩
 ·by_cases e : v = u
  ·subst e
   rw [List.getElem?_set_self (by rw [h.sl]; exact hvl)]
   exact ⟨fun _ => ⟨x, List.mem_append_right _ (List.mem_singleton.2 rfl), hv⟩, fun _ => rfl⟩
  ·rw [List.getElem?_set_ne e, h.s u hu]
   constructor
   ·rintro ⟨e, h1, h2⟩; exact ⟨e, List.mem_append_left _ h1, h2⟩
   ·rintro ⟨e, h1, h2⟩
    rcases List.mem_append.1 h1 with h1 | h1
    ·exact ⟨e, h1, h2⟩
    ·rw [List.mem_singleton] at h1; subst h1; omega
 ·by_cases e : t = s
  ·subst e
   rw [List.getElem?_set_self (by rw [h.ll]; exact htl)] at hy
   cases hy
   exact .inr ⟨x, List.mem_append_right _ (List.mem_singleton.2 rfl), ht, hv⟩
  ·rw [List.getElem?_set_ne e] at hy
   rcases h.l s y hy with h1 | ⟨e, h1, h2⟩
   ·exact .inl h1
   ·exact .inr ⟨e, List.mem_append_left _ h1, h2⟩
section
variable {p : Prg} {r : Tr}
theorem tP.nle (h : tP p r) : r.n ≤ r.es.length := by
 have key : ∀ n, n ≤ r.n → ∃ l : List Nat, l.length = n ∧ l.Nodup ∧ (∀ i ∈ l, i < r.es.length) ∧ ∀ i ∈ l, ∃ e, r.es[i]? = some e ∧ 0 ≤ e.place ∧ e.place < n := by
  intro n
  induction n with
  | zero => exact fun _ => ⟨[], rfl, List.nodup_nil, (fun i h => by cases h), fun i h => by cases h⟩
  | succ n ih =>
   intro hn
   obtain ⟨l, h1, h2, h3, h4⟩ := ih (by omega)
   obtain ⟨i, e, g1, g2⟩ := h.sur n (by omega)
   refine ⟨i :: l, by rw [List.length_cons, h1], List.nodup_cons.2 ⟨fun hi => ?_, h2⟩, fun j hj => ?_, fun j hj => ?_⟩
   ·obtain ⟨e', k1, k2, k3⟩ := h4 i hi
    rw [g1] at k1; cases k1; omega
   ·rcases List.mem_cons.1 hj with rfl | hj
    ·exact (List.getElem?_eq_some_iff.1 g1).1
    ·exact h3 j hj
   ·rcases List.mem_cons.1 hj with rfl | hj
    ·exact ⟨e, g1, by omega, by omega⟩
    ·obtain ⟨e', k1, k2, k3⟩ := h4 j hj; exact ⟨e', k1, k2, by omega⟩
 obtain ⟨l, h1, h2, h3, _⟩ := key r.n (Nat.le_refl _)
 rw [← h1]; exact nodup_le h2 h3
theorem tP.plc (h : tP p r) {a b : List Ev} {x : Ev} (e : r.es = a ++ x :: b) (h0 : 0 ≤ x.place) {S : List Bool} {L : List Int} (q : pQ r.es a p.threads.length S L) :
  ∃ v t : Nat, x.place = v ∧ x.th = t ∧ (x.kind = 3 ∨ x.kind = 4) ∧ v < r.es.length ∧ t < p.threads.length ∧ S[v]? = some false ∧ ∃ y, L[t]? = some y ∧ y ≤ v := by
 have hx : r.es[a.length]? = some x := by rw [e]; exact ix
 have hpl := h.pl _ x hx
 have hth := h.th _ x hx
 have hkd := h.kd _ x hx h0
 have hn := h.nle
 have hv : x.place.toNat < r.es.length := by omega
 refine ⟨x.place.toNat, x.th.toNat, by omega, by omega, hkd, hv, by omega, ?_, ?_⟩
 ·have hS : x.place.toNat < S.length := by rw [q.sl]; exact hv
  rw [List.getElem?_eq_getElem hS]
  cases hb : S[x.place.toNat] with
  | false => rfl
  | true =>
   obtain ⟨w, h1, h2⟩ := (q.s _ hv).1 (by rw [List.getElem?_eq_getElem hS, hb])
   obtain ⟨i, hi, h3⟩ := List.getElem_of_mem h1
   have h4 : r.es[i]? = some w := by rw [e, List.getElem?_append_left hi, List.getElem?_eq_getElem hi, h3]
   have := h.inj i a.length w x h4 hx (by omega) (by omega)
   omega
 ·have hL : x.th.toNat < L.length := by rw [q.ll]; omega
  refine ⟨_, List.getElem?_eq_getElem hL, ?_⟩
  rcases q.l _ _ (List.getElem?_eq_getElem hL) with h1 | ⟨w, h1, h2, h3⟩
  ·omega
  ·obtain ⟨i, hi, h5⟩ := List.getElem_of_mem h1
   have h4 : r.es[i]? = some w := by rw [e, List.getElem?_append_left hi, List.getElem?_eq_getElem hi, h5]
   have := (h.ord i a.length w x hi h4 hx (by omega) h0).2
   omega
theorem tP.count (h : tP p r) : (placed r.es).length ≤ r.n := by
 refine nodup_le (n := r.n) ?_ fun v hv => ?_
 ·have key : ∀ a b : List Ev, r.es = a ++ b → (placed b).Nodup := by
   intro a b
   induction b generalizing a with
   | nil => exact fun _ => List.nodup_nil
   | cons x b ih =>
    intro e
    have h1 := ih (a ++ [x]) (by rw [e]; simp)
    by_cases h0 : 0 ≤ x.place
    ·have e2 : placed (x :: b) = x.place.toNat :: placed b := by
      have := placed_app [x] b
      rw [placed_p h0] at this; exact this
     rw [e2, List.nodup_cons]
     refine ⟨fun hm => ?_, h1⟩
     obtain ⟨w, k1, k2⟩ := placed_mem.1 hm
     obtain ⟨i, hi, k3⟩ := List.getElem_of_mem k1
     have hx : r.es[a.length]? = some x := by rw [e]; exact ix
     have hw : r.es[a.length + (i + 1)]? = some w := by
      rw [e, List.getElem?_append_right (by omega)]
      have : a.length + (i + 1) - a.length = i + 1 := by omega
      rw [this, List.getElem?_cons_succ, List.getElem?_eq_getElem hi, k3]
     have := h.inj _ _ x w hx hw h0 (by omega)
     omega
    ·have e2 : placed (x :: b) = placed b := by
      have := placed_app [x] b
      rw [placed_s (by omega)] at this; exact this
     rw [e2]; exact h1
  exact key [] r.es rfl
 ·obtain ⟨w, k1, k2⟩ := placed_mem.1 hv
  obtain ⟨i, hi, k3⟩ := List.getElem_of_mem k1
  have := h.pl i w (by rw [List.getElem?_eq_getElem hi, k3])
  omega
theorem tP.full (h : tP p r) {nt : Nat} {S : List Bool} {L : List Int} (q : pQ r.es r.es nt S L) (v : Nat) (hv : v < (placed r.es).length) : S[v]? = some true := by
 have h1 := h.count
 have h2 := h.nle
 obtain ⟨i, e, g1, g2⟩ := h.sur v (by omega)
 exact (q.s v (by omega)).2 ⟨e, List.mem_of_getElem? g1, g2⟩
end
end Go.Proofs.YtpeifhiphfpajaaDoor
namespace Go.Proofs.YtpeifhiphfpajaaDoor
set_option maxRecDepth 20000
open Go Go.Proofs.YtpeifhiphfpajaaDoor.V Go.Proofs
def bR (S : List Bool) : List (List TV) := S.map fun b => [tB b]
def iR (L : List Int) : List (List TV) := L.map fun n => [tI n]
theorem bR_get {S : List Bool} {v : Nat} {b : Bool} (h : S[v]? = some b) : (bR S)[v]? = some [tB b] := by
 unfold bR; rw [List.getElem?_map, h]; rfl
theorem iR_get {L : List Int} {v : Nat} {b : Int} (h : L[v]? = some b) : (iR L)[v]? = some [tI b] := by
 unfold iR; rw [List.getElem?_map, h]; rfl
theorem bR_set (S : List Bool) (v : Nat) (b : Bool) : (bR S).set v [tB b] = bR (S.set v b) := by
 unfold bR; rw [List.map_set]
theorem iR_set (L : List Int) (v : Nat) (b : Int) : (iR L).set v [tI b] = iR (L.set v b) := by
 unfold iR; rw [List.map_set]
section
attribute [local irreducible] TwS TwR thenT inBlockT retT nextW localW loadedW swapW Rg.push Rg.pop trailR bR iR
set_option maxHeartbeats 20000000 in
theorem trailPlaces (l : List (List Act)) (hl : ∀ r ∈ l, ∀ a ∈ r, inR a.n) (picks : List Int) : Pure prog Tabs 3 [cActs l, rwI picks] (tB true) := by
 obtain ⟨p, ho, hc, hn, c1, h3, hq, _⟩ := book_sc l hl
 have hth : (p.threads.map cTh).length = p.threads.length := lM ..
 have c4 := picks_own (G := Tabs) picks (p.threads.map cTh).length 60 (by omega) (by decide)
 have hsl := picksF_len picks (p.threads.map cTh).length 60
 generalize picksF picks (p.threads.map cTh).length 60 = row at c4 hsl
 have hsm : (row.map cPick).length = row.length := lM ..
 have c6 := trailOf_spec p ho hc hn hq h3 row (by omega) (fun h hm x => do_own p h hm x)
 have hel := trailR_len p hc row
 obtain ⟨g1, g2, g3⟩ := trail_ok hc row
 have c11 := aliveR_spec
 have hnn : ∀ (i : Nat) (e : Ev), (trailR p row).es[i]? = some e → e.place < 0 → e.place = -1 ∧ e.kind ≠ 3 := fun i e he h0 => by
  have := g2.pl i e he
  exact ⟨by omega, fun hk => by have := g3 i e he hk; omega⟩
 have hpl := fun (a b : List Ev) (x : Ev) (e : (trailR p row).es = a ++ x :: b) h0 S L q => g2.plc (a := a) (b := b) (x := x) e h0 (S := S) (L := L) q
 have hful := fun S L q => g2.full (nt := p.threads.length) (S := S) (L := L) q
 have hct : (placed (trailR p row).es).length ≤ (trailR p row).es.length := Nat.le_trans g2.count g2.nle
 clear g1 g2 g3
 generalize (trailR p row).es = es at *
 have hem : (es.map cEv).length = es.length := lM ..
 have r1 : List.replicate (((es.map cEv).length : Nat) : Int).toNat ([Value.bool false].map TV.v) = bR (List.replicate es.length false) := by
  unfold bR; rw [hem, List.map_replicate]; rfl
 have r2 : List.replicate (((p.threads.map cTh).length : Nat) : Int).toNat ([Value.int .i64 0].map TV.v) = iR (List.replicate p.threads.length 0) := by
  unfold iR; rw [hth, List.map_replicate]; rfl
 refine Pure.at mixedOk F3 rfl fun C hP hG hp => goF ?_; simp only [F3, targEnv, Nat.zero_add, Nat.reduceAdd]
 repeat' (first | refine goR rfl ?_ | refine goS rfl ?_ | refine tret1 rfl ?_ | refine tretN rfl ?_ | refine gY rfl rfl ?_ | refine gN rfl rfl ?_ | refine qT rfl rfl ?_ | refine qF rfl rfl ?_ | refine cA rfl (by rw [hP]; exact c1 _) rfl ?_ | (refine tr_mcallX hP hG (c4) rfl rfl rfl rfl rfl rfl rfl rfl rfl rfl rfl rfl ?_; refine tr_frzS 20 rfl rfl hsm.symm ?_) | refine cA rfl (by rw [hP, hG]; exact c6) rfl ?_ | (refine tr_make rfl rfl rfl rfl (by omega) ?_; first | rw [r1] | rw [r2]) | fail)
 refine loopS (fun m env σ => ∃ a b S L, es = a ++ b ∧ m = b.length ∧ pQ es a p.threads.length S L ∧ env = [(6, .lst 6 (es.map cEv)), (7, .s 0 1 0 es.length true), (8, tI (placed a).length), (9, .s 1 1 0 p.threads.length true), (10, tI a.length)] ∧ σ = ⟨[(0, .rows 1 (bR S) 4), (1, .rows 1 (iR L) 3)], 60⟩) es.length (w_canon 60 [] [6, 7, 8, 9, 10] hp rfl rfl rfl rfl) ⟨[], es, _, _, rfl, rfl, pQ.start es p.threads.length, by rw [hem, hth]; rfl, rfl⟩ ?_
 rintro m1 env σ ⟨a, b, S, L, e, rfl, q, rfl, rfl⟩
 have hla : es.length = a.length + b.length := by rw [e, lA]
 cases b with
 | nil =>
  rw [List.length_nil] at hla
  obtain rfl : es = a := by rw [e, List.append_nil]
  have hf := hful S L q
  clear hful hpl hnn
  repeat' (first | refine goR rfl ?_ | refine goS rfl ?_ | refine tret1 rfl ?_ | refine tretN rfl ?_ | refine gY rfl rfl ?_ | refine gN rfl rfl ?_ | refine qT rfl rfl ?_ | refine qF rfl rfl ?_ | refine qF rfl (dF (by omega)) ?_ | fail)
  refine loopS (fun m env σ => ∃ i : Nat, i ≤ (placed es).length ∧ m = (placed es).length - i ∧ env = [(7, .s 0 1 0 es.length true), (8, tI (placed es).length), (12, tI i)] ∧ σ = ⟨[(0, .rows 1 (bR S) 4)], 60⟩) (placed es).length (w_canon 60 [] [7, 8, 12] hp rfl rfl rfl rfl) ⟨0, Nat.zero_le _, rfl, rfl, rfl⟩ ?_
  rintro m1 env σ ⟨i, hi, rfl, rfl, rfl⟩
  by_cases hil : i < (placed es).length
  ·have hg := bR_get (hf i hil)
   have hw1 : IntKind.i64.wrap ((i : Int) + 1) = ((i + 1 : Nat) : Int) := by rw [w64 (by omega)]; rfl
   repeat' (first | refine goR rfl ?_ | refine goS rfl ?_ | refine tret1 rfl ?_ | refine tretN rfl ?_ | refine gY rfl rfl ?_ | refine gN rfl rfl ?_ | refine qT rfl rfl ?_ | refine qF rfl rfl ?_ | refine qT rfl (dT (by omega)) ?_ | refine lT (tl_ixo (m := i) rfl rfl rfl (by omega)) ?_ | refine lT (tl_ldE rfl rfl hg rfl) ?_ | fail)
   exact again (m' := (placed es).length - (i + 1)) (by omega) (w_canon 60 [] [7, 8, 12] hp rfl rfl rfl rfl) ⟨i + 1, by omega, rfl, by rw [hw1], rfl⟩
  ·repeat' (first | refine goR rfl ?_ | refine goS rfl ?_ | refine tret1 rfl ?_ | refine tretN rfl ?_ | refine gY rfl rfl ?_ | refine gN rfl rfl ?_ | refine qT rfl rfl ?_ | refine qF rfl rfl ?_ | refine qF rfl (dF (by omega)) ?_ | refine cA rfl (by rw [hP, hG]; exact c11) rfl ?_ | fail)
   exact .fr rfl
 | cons x b =>
  have hx : es[a.length]? = some x := by rw [e]; exact ix
  simp only [List.length_cons] at hla
  have hw1 : IntKind.i64.wrap ((a.length : Int) + 1) = ((a ++ [x]).length : Int) := by rw [w64 (by omega), lA]; rfl
  have hne := hnn _ _ hx
  have hp2 := hpl a b x e
  have hpa : (placed a).length ≤ es.length := by
   have := congrArg (fun z => (placed z).length) e
   simp only [placed_app, lA] at this
   omega
  clear hful hpl hnn
  by_cases h0 : x.place < 0
  ·have hpe : placed (a ++ [x]) = placed a := by rw [placed_app, placed_s h0, List.append_nil]
   have hq := q.skip h0
   obtain ⟨th, ins, kd, ad, fr, pl⟩ := x
   obtain ⟨n1, n2⟩ := hne h0
   simp only at n1 n2 h0
   subst n1
   clear hp2
   repeat' (first | refine goR rfl ?_ | refine goS rfl ?_ | refine tret1 rfl ?_ | refine tretN rfl ?_ | refine gY rfl rfl ?_ | refine gN rfl rfl ?_ | refine qT rfl rfl ?_ | refine qF rfl rfl ?_ | refine qT rfl (dT (by omega)) ?_ | refine lT (tl_ixm rfl rfl rfl hx) ?_ | ((first | refine gS rfl (fun h => ?_) (fun h => ?_) | refine ts_cond rfl (fun h => ?_) (fun h => ?_)) <;> (try simp only [bs0, beq_iff_eq] at h) <;> try (exfalso; omega; done)) | fail)
   all_goals exact again (m' := b.length) (Nat.lt_succ_self _) (w_canon 60 [] [6, 7, 8, 9, 10] hp rfl rfl rfl rfl) ⟨a ++ [⟨th, ins, kd, ad, fr, -1⟩], b, S, L, by rw [e]; simp, rfl, hq, by rw [hpe, ← hw1], rfl⟩
  ·obtain ⟨v, t, k1, k2, k3, k4, k5, k6, y, k7, k8⟩ := hp2 (by omega) S L q
   have hpe : (placed (a ++ [x])).length = (placed a).length + 1 := by rw [placed_app, placed_p (by omega), lA]; rfl
   have hw2 : IntKind.i64.wrap (((placed a).length : Int) + 1) = ((placed (a ++ [x])).length : Int) := by rw [w64 (by omega), hpe]; rfl
   have hq := q.put k1 k2 k4 k5
   have s1 := bR_get k6
   have s2 := iR_get k7
   obtain ⟨th, ins, kd, ad, fr, pl⟩ := x
   simp only at k1 k2 k3
   subst k1 k2
   clear hp2 hne
   repeat' (first | refine goR rfl ?_ | refine goS rfl ?_ | refine tret1 rfl ?_ | refine tretN rfl ?_ | refine gY rfl rfl ?_ | refine gN rfl rfl ?_ | refine qT rfl rfl ?_ | refine qF rfl rfl ?_ | refine qT rfl (dT (by omega)) ?_ | refine lT (tl_ixm rfl rfl rfl hx) ?_ | refine lT (tl_ixo (m := v) rfl rfl rfl (by omega)) ?_ | refine lT (tl_ixo (m := t) rfl rfl rfl (by omega)) ?_ | refine lT (tl_ldE rfl rfl s1 rfl) ?_ | refine lT (tl_ldE rfl rfl s2 rfl) ?_ | refine tr_storeE rfl rfl s1 rfl rfl rfl rfl rfl rfl ?_ | refine tr_storeE rfl rfl s2 rfl rfl rfl rfl rfl rfl ?_ | ((first | refine gS rfl (fun h => ?_) (fun h => ?_) | refine ts_cond rfl (fun h => ?_) (fun h => ?_)) <;> (try simp only [bs0, beq_iff_eq] at h) <;> try (exfalso; omega; done)) | fail)
   all_goals exact again (m' := b.length) (Nat.lt_succ_self _) (w_canon 60 [] [6, 7, 8, 9, 10] hp rfl rfl rfl rfl) ⟨a ++ [⟨(t : Int), ins, kd, ad, fr, (v : Int)⟩], b, S.set v true, L.set t v, by rw [e]; simp, rfl, hq, by rw [← hw2, ← hw1], by rw [← bR_set, ← iR_set]; rfl⟩
end
end Go.Proofs.YtpeifhiphfpajaaDoor
