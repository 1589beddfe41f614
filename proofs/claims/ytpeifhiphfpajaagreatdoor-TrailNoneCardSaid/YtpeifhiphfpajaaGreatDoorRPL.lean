/-
  Walks of functions of the program, and what the laws need of them.
-/
import Derived.Test.YtpeifhiphfpajaaGreatDoorRPK
import Derived.Test.YtpeifhiphfpajaaGreatDoorVI
set_option linter.all false
set_option linter.unusedSimpArgs false
set_option linter.unusedVariables false
set_option linter.unnecessarySimpa false
namespace Go.Proofs.YtpeifhiphfpajaaGreatDoor
set_option maxRecDepth 20000
open Go Go.Proofs.YtpeifhiphfpajaaGreatDoor.V Go.Proofs
abbrev Pk := Int × Bool
def sA (p : Prg) (s : State) (l : List Pk) : State := l.foldl (fun s x => (tsoW p s x.1 x.2).1) s
theorem runT_s (p : Prg) : ∀ (l : List Pk) (q : MS), (runT p q l).1 = sA p q.1 l
 | [], _ => rfl
 | x :: l, q => runT_s p l (mW p q x)
theorem stepB_no' {p : Prg} {s : State} {t : Nat} {x : Thr} (h : (stepB p s t x).2 = false) : (stepB p s t x).1 = s := by
 unfold stepB stepS at h ⊢
 repeat' split
 all_goals first | rfl | (exfalso; revert h; repeat' split <;> simp_all)
def aE (s : State) : Prop := ∀ l ∈ s.bufs, ∀ e ∈ l, 0 ≤ e.addr ∧ e.addr < s.mem.length
section
variable {p : Prg} {s a : State} {k j : Nat} {y : Thr}
theorem bufAt_mem {e : Entry} (h : e ∈ bufAt s k) : ∃ l ∈ s.bufs, e ∈ l := by
 unfold bufAt at h
 rw [List.getD_eq_getElem?_getD] at h
 cases hg : s.bufs[k]? with
 | none => rw [hg] at h; cases h
 | some l => rw [hg] at h; exact ⟨l, List.mem_of_getElem? hg, h⟩
theorem aE.at (h : aE s) {e : Entry} (he : e ∈ bufAt s k) : 0 ≤ e.addr ∧ e.addr < s.mem.length := by
 obtain ⟨l, hl, hm⟩ := bufAt_mem he
 exact h l hl e hm
theorem aE.flush (h : aE s) (k : Nat) : aE (flushW s k).1 := by
 unfold flushW
 cases hb : bufAt s k with
 | nil => exact h
 | cons e r =>
  intro l hl e' he'
  rcases List.mem_or_eq_of_mem_set hl with h1 | rfl
  ·have := h l h1 e' he'
   exact ⟨this.1, by show _ < ((wrM s e.addr e.val).length : Int); rw [wrM_len]; exact this.2⟩
  ·have := h.at (k := k) (e := e') (by rw [hb]; exact List.mem_cons_of_mem _ he')
   exact ⟨this.1, by show _ < ((wrM s e.addr e.val).length : Int); rw [wrM_len]; exact this.2⟩
theorem aE.stepB (hc : checkC p = 0) (hl : s.mem.length = (startF p.syms).length) (h : aE s) {t : Nat} {x : Thr} : aE (stepB p s t x).1 := by
 have key : ∀ m : List Int, m.length = s.mem.length → ∀ l ∈ s.bufs, ∀ e ∈ l, 0 ≤ e.addr ∧ e.addr < (m.length : Int) := fun m hm l hl e he => by rw [hm]; exact h l hl e he
 by_cases h0 : (nextW p t x).kind = 0
 ·rw [stepB_0 h0]; exact h
 by_cases h2 : (nextW p t x).kind = 2
 ·rw [stepB_2 h2]; exact h
 by_cases h3 : (nextW p t x).kind = 3
 ·rw [stepB_3 h3]
  obtain ⟨g1, g2⟩ := next_addr hc (t := t) (x := x) (.inr (.inl h3))
  rw [← hl] at g2
  intro l hl e he
  rcases List.mem_or_eq_of_mem_set hl with h1 | rfl
  ·exact h l h1 e he
  ·rcases List.mem_append.1 he with he | he
   ·exact h.at he
   ·rw [List.mem_singleton.1 he]; exact ⟨g1, g2⟩
 by_cases h5 : ((nextW p t x).kind = 4 ∨ (nextW p t x).kind = 5) ∧ bufAt s t ≠ []
 ·rw [stepB_w h5.1 h5.2]; exact h
 by_cases h4 : (nextW p t x).kind = 4
 ·rw [stepB_4 h4 (Classical.byContradiction fun hb => h5 ⟨.inl h4, hb⟩)]
  refine key _ ?_
  split
  ·exact wrM_len ..
  ·rfl
 ·rw [stepB_5 h0 h2 h3 h4 (fun h => Classical.byContradiction fun hb => h5 ⟨.inr h, hb⟩)]; exact h
end
theorem start_aE (p : Prg) : aE (startT p) := by
 intro l hl
 rw [(List.mem_replicate.1 hl).2]
 intro e he; cases he
end Go.Proofs.YtpeifhiphfpajaaGreatDoor
namespace Go.Proofs.YtpeifhiphfpajaaGreatDoor
set_option maxRecDepth 20000
open Go Go.Proofs.YtpeifhiphfpajaaGreatDoor.V Go.Proofs
structure Ev where
 th : Int
 ins : Int
 kind : Int
 addr : Int
 frm : Int
 place : Int
def cEv (e : Ev) : List TV := [tI e.th, tI e.ins, tI e.kind, tI e.addr, tI e.frm, tI e.place]
structure Tr where
 s : State
 es : List Ev
 W : List (List (Int × Int))
 wm : List (Int × Int)
 n : Nat
def lastA (l : List (Int × Int)) (a : Int) : Option Int := (l.reverse.find? fun e => decide (e.1 = a)).map (·.2)
def frmW (r : Tr) (t : Nat) (a : Int) : Int := (lastA (r.W.getD t []) a).getD ((lkI a r.wm).getD (-1))
def setP (es : List Ev) (k : Nat) (n : Int) : List Ev := match es[k]? with
 | some e => es.set k { e with place := n }
 | none => es
def wrT (r : Tr) (a : Int) (k : Nat) : Tr := { r with es := setP r.es k r.n, n := r.n + 1, wm := putI a k r.wm }
def evOf (p : Prg) (r : Tr) (t : Nat) (x : Thr) : Ev :=
 let d := nextW p t x
 ⟨t, x.pc, d.kind, if d.kind = 2 ∨ d.kind = 3 ∨ d.kind = 4 then d.addr else -1, if d.kind = 2 ∨ d.kind = 4 then frmW r t d.addr else -1, -1⟩
def doT (p : Prg) (r : Tr) (t : Nat) (x : Thr) (f : Bool) : Tr :=
 let r' : Tr := { r with s := (tsoW p r.s t f).1 }
 if f = true then (match r.W.getD t [] with
  | [] => r'
  | (a, k) :: w => wrT { r' with W := r.W.set t w } a k.toNat)
 else
  let e := evOf p r t x
  let r1 : Tr := { r' with es := r.es ++ [e] }
  if e.kind = 3 then { r1 with W := r.W.set t (r.W.getD t [] ++ [(e.addr, (r.es.length : Int))]) }
  else if e.kind = 4 ∧ (swapW p t x (rdM r.s e.addr)).2.2 = true then wrT r1 e.addr r.es.length
  else r1
def trS (p : Prg) (r : Tr) (x : Pk) : Tr := if (tsoW p r.s x.1 x.2).2 = true then (match r.s.thr[x.1.toNat]? with
 | some y => doT p r x.1.toNat y x.2
 | none => r) else r
def trL (p : Prg) (r : Tr) (l : List Pk) : Tr := l.foldl (trS p) r
def beginR (p : Prg) : Tr := ⟨startT p, [], List.replicate p.threads.length [], [], 0⟩
structure tQ (p : Prg) (r : Tr) : Prop where
 len : r.s.mem.length = (startF p.syms).length
 bl : r.s.bufs.length = r.s.thr.length
 th : r.s.thr.length = p.threads.length
 wl : r.W.length = r.s.thr.length
 bw : ∀ t : Nat, (r.W.getD t []).map (·.1) = (bufAt r.s t).map (·.addr)
 ev : ∀ t : Nat, ∀ w ∈ r.W.getD t [], ∃ (k : Nat) (e : Ev), w.2 = (k : Int) ∧ r.es[k]? = some e ∧ e.addr = w.1 ∧ e.kind = 3 ∧ e.th = (t : Int) ∧ e.place = -1
 wr : ∀ (a k : Int), lkI a r.wm = some k → ∃ (j : Nat) (e : Ev), k = (j : Int) ∧ r.es[j]? = some e ∧ e.addr = a ∧ 0 ≤ e.place
 srt : ∀ t : Nat, List.Pairwise (fun a b : Int × Int => a.2 < b.2) (r.W.getD t [])
 en : aE r.s
end Go.Proofs.YtpeifhiphfpajaaGreatDoor
namespace Go.Proofs.YtpeifhiphfpajaaGreatDoor
set_option maxRecDepth 20000
open Go Go.Proofs.YtpeifhiphfpajaaGreatDoor.V Go.Proofs
section
variable {es : List Ev} {k i : Nat} {n : Int}
theorem setP_len (es : List Ev) (k : Nat) (n : Int) : (setP es k n).length = es.length := by
 unfold setP
 split
 ·exact List.length_set ..
 ·rfl
theorem setP_get (es : List Ev) (k : Nat) (n : Int) (i : Nat) : (setP es k n)[i]? = (es[i]?).map fun e => if i = k then { e with place := n } else e := by
 unfold setP
 cases hk : es[k]? with
 | none =>
  simp only
  cases hi : es[i]? with
  | none => rfl
  | some e =>
   have : i ≠ k := fun h => by subst h; rw [hk] at hi; cases hi
   show _ = some (if i = k then _ else e)
   rw [if_neg this]
 | some e =>
  simp only
  have hkl := (List.getElem?_eq_some_iff.1 hk).1
  by_cases h : i = k
  ·subst h
   rw [List.getElem?_set_self hkl, hk]
   show _ = some (if i = i then _ else e)
   rw [if_pos rfl]
  ·rw [List.getElem?_set_ne (fun e => h e.symm)]
   cases hi : es[i]? with
   | none => rfl
   | some e' =>
    show _ = some (if i = k then _ else e')
    rw [if_neg h]
end
theorem getW_set {W : List (List (Int × Int))} {t j : Nat} (ht : t < W.length) (w : List (Int × Int)) : (W.set t w).getD j [] = if j = t then w else W.getD j [] := by
 rw [List.getD_eq_getElem?_getD, List.getD_eq_getElem?_getD]
 by_cases h : j = t
 ·subst h; rw [List.getElem?_set_self ht, if_pos rfl]; rfl
 ·rw [List.getElem?_set_ne (fun e => h e.symm), if_neg h]
theorem bufAt_get {m : List Int} {th : List Thr} {B : List (List Entry)} {lk : Int} {t j : Nat} (ht : t < B.length) (w : List Entry) : bufAt ⟨m, th, B.set t w, lk⟩ j = if j = t then w else bufAt ⟨m, th, B, lk⟩ j := by
 unfold bufAt
 rw [List.getD_eq_getElem?_getD, List.getD_eq_getElem?_getD]
 by_cases h : j = t
 ·subst h; rw [List.getElem?_set_self ht, if_pos rfl]; rfl
 ·rw [List.getElem?_set_ne (fun e => h e.symm), if_neg h]
theorem wrT_wr {r : Tr} {a : Int} {k : Nat} {e : Ev} (he : r.es[k]? = some e) (ha : e.addr = a) (h : ∀ (a k : Int), lkI a r.wm = some k → ∃ (j : Nat) (e : Ev), k = (j : Int) ∧ r.es[j]? = some e ∧ e.addr = a ∧ 0 ≤ e.place) :
  ∀ (b k' : Int), lkI b (wrT r a k).wm = some k' → ∃ (j : Nat) (e : Ev), k' = (j : Int) ∧ (wrT r a k).es[j]? = some e ∧ e.addr = b ∧ 0 ≤ e.place := by
 intro b k' hb
 have hb : lkI b (putI a k r.wm) = some k' := hb
 rw [lkI_put] at hb
 by_cases hba : b = a
 ·rw [if_pos hba] at hb
  cases hb
  refine ⟨k, { e with place := r.n }, rfl, ?_, by rw [hba, ← ha], by show (0 : Int) ≤ r.n; omega⟩
  show (setP r.es k r.n)[k]? = _
  rw [setP_get, he]
  simp
 ·rw [if_neg hba] at hb
  obtain ⟨j, e', h1, h2, h3, h4⟩ := h b k' hb
  refine ⟨j, if j = k then { e' with place := r.n } else e', h1, ?_, ?_, ?_⟩
  ·show (setP r.es k r.n)[j]? = _
   rw [setP_get, h2]; rfl
  ·split
   ·exact h3
   ·exact h3
  ·split
   ·show (0 : Int) ≤ r.n; omega
   ·exact h4
theorem tso_len {p : Prg} {s : State} {k : Nat} {y : Thr} (hx : s.thr[k]? = some y) (f : Bool) : (tsoW p s k f).1.mem.length = s.mem.length ∧ (tsoW p s k f).1.bufs.length = s.bufs.length ∧ (tsoW p s k f).1.thr.length = s.thr.length := by
 have hkl := (List.getElem?_eq_some_iff.1 hx).1
 cases f with
 | true =>
  rw [tsoW_f hkl]
  obtain ⟨f1, f2, _⟩ := flushW_thr s k
  refine ⟨?_, f2, by rw [f1]⟩
  unfold flushW
  split
  ·rfl
  ·exact wrM_len ..
 | false =>
  rw [tsoW_s hx]
  unfold stepB stepS
  repeat' split
  all_goals simp [wrM_len]
theorem step_buf {p : Prg} {s : State} {k : Nat} {x : Thr} (h3 : (nextW p k x).kind ≠ 3) : (stepB p s k x).1.bufs = s.bufs := by
 unfold stepB
 repeat' split
 all_goals first | rfl | exact (stepS_bufs p s k x).1 | contradiction
theorem tQ.step {p : Prg} (hc : checkC p = 0) {r : Tr} (h : tQ p r) (x : Pk) : tQ p (trS p r x) := by
 obtain ⟨t, f⟩ := x
 unfold trS
 simp only
 cases hd : (tsoW p r.s t f).2 with
 | false => exact h
 | true =>
  rw [if_pos rfl]
  by_cases ht : 0 ≤ t ∧ t < (r.s.thr.length : Int)
  ·obtain ⟨k, rfl⟩ : ∃ k : Nat, t = k := ⟨t.toNat, by omega⟩
   have hkl : k < r.s.thr.length := by omega
   have hx : r.s.thr[k]? = some r.s.thr[k] := List.getElem?_eq_getElem hkl
   generalize r.s.thr[k] = y at hx
   rw [Int.toNat_natCast, hx]
   simp only
   obtain ⟨l1, l2, l3⟩ := tso_len (p := p) hx f
   have hkb : k < r.s.bufs.length := by rw [h.bl]; exact hkl
   have hkw : k < r.W.length := by rw [h.wl]; exact hkl
   cases f with
   | true =>
    rw [tsoW_f hkl] at hd l1 l2 l3
    have hen := h.en.flush k
    unfold doT
    simp only [if_true]
    rw [tsoW_f hkl]
    have hbw := h.bw k
    cases hb : bufAt r.s k with
    | nil => rw [flushW_nil hb] at hd; cases hd
    | cons e B =>
     rw [flushW_cons hb] at l1 l2 l3 hen ⊢
     rw [hb] at hbw
     cases hw : r.W.getD k [] with
     | nil => rw [hw] at hbw; simp at hbw
     | cons q w =>
      obtain ⟨a, j⟩ := q
      rw [hw] at hbw
      simp only [List.map_cons, List.cons.injEq] at hbw
      obtain ⟨hae, hwb⟩ := hbw
      obtain ⟨i, ev, e1, e2, e3, e4, e5, e6⟩ := h.ev k (a, j) (by rw [hw]; exact List.mem_cons_self ..)
      simp only at e1 e3
      subst e1
      have hsrt := h.srt k
      rw [hw] at hsrt
      have hget : ∀ t' : Nat, (r.W.set k w).getD t' [] = if t' = k then w else r.W.getD t' [] := fun t' => getW_set hkw w
      simp only
      rw [Int.toNat_natCast]
      refine ⟨l1.trans h.len, by show (r.s.bufs.set k B).length = _; rw [List.length_set]; exact h.bl, h.th, by show (r.W.set k w).length = _; rw [List.length_set]; exact h.wl, fun t' => ?_, fun t' q hq => ?_, ?_, fun t' => ?_, hen⟩
      ·show ((r.W.set k w).getD t' []).map _ = (bufAt ⟨_, r.s.thr, r.s.bufs.set k B, r.s.lock⟩ t').map _
       rw [hget, bufAt_get hkb]
       by_cases htk : t' = k
       ·rw [if_pos htk, if_pos htk]; exact hwb
       ·rw [if_neg htk, if_neg htk]; exact h.bw t'
      ·have hq' : q ∈ (r.W.set k w).getD t' [] := hq
       rw [hget] at hq'
       have hq2 : q ∈ r.W.getD t' [] ∧ (t' = k → (i : Int) < q.2) := by
        by_cases htk : t' = k
        ·rw [if_pos htk] at hq'
         rw [htk]
         exact ⟨by rw [hw]; exact List.mem_cons_of_mem _ hq', fun _ => (List.pairwise_cons.1 hsrt).1 q hq'⟩
        ·rw [if_neg htk] at hq'
         exact ⟨hq', fun h => absurd h htk⟩
       obtain ⟨j', ev', g1, g2, g3, g4, g5, g6⟩ := h.ev t' q hq2.1
       have hne : j' ≠ i := fun hji => by
        subst hji
        rw [e2] at g2
        cases g2
        rw [e5] at g5
        have := hq2.2 (by omega)
        omega
       refine ⟨j', ev', g1, ?_, g3, g4, g5, g6⟩
       show (setP r.es i r.n)[j']? = _
       rw [setP_get, g2, Option.map_some, if_neg hne]
      ·exact wrT_wr (r := ⟨_, r.es, _, r.wm, r.n⟩) e2 e3 h.wr
      ·show List.Pairwise _ ((r.W.set k w).getD t' [])
       rw [hget]
       by_cases htk : t' = k
       ·rw [if_pos htk]; exact (List.pairwise_cons.1 hsrt).2
       ·rw [if_neg htk]; exact h.srt t'
   | false =>
    rw [tsoW_s hx] at hd l1 l2 l3
    have hen := h.en.stepB hc h.len (t := k) (x := y)
    have hkeep : ∀ (n : Nat) (t' : Nat), ∀ q ∈ r.W.getD t' [], ∃ (j : Nat) (e : Ev), q.2 = (j : Int) ∧ (r.es ++ [evOf p r k y])[j]? = some e ∧ e.addr = q.1 ∧ e.kind = 3 ∧ e.th = (t' : Int) ∧ e.place = -1 ∧ j < r.es.length := fun _ t' q hq => by
     obtain ⟨j, e, g1, g2, g3⟩ := h.ev t' q hq
     have hj := (List.getElem?_eq_some_iff.1 g2).1
     exact ⟨j, e, g1, by rw [List.getElem?_append_left hj]; exact g2, g3.1, g3.2.1, g3.2.2.1, g3.2.2.2, hj⟩
    have hwr : ∀ (a k' : Int), lkI a r.wm = some k' → ∃ (j : Nat) (e : Ev), k' = (j : Int) ∧ (r.es ++ [evOf p r k y])[j]? = some e ∧ e.addr = a ∧ 0 ≤ e.place := fun a k' ha => by
     obtain ⟨j, e, g1, g2, g3⟩ := h.wr a k' ha
     exact ⟨j, e, g1, by rw [List.getElem?_append_left (List.getElem?_eq_some_iff.1 g2).1]; exact g2, g3⟩
    have hlast : (r.es ++ [evOf p r k y])[r.es.length]? = some (evOf p r k y) := by
     rw [List.getElem?_append_right (Nat.le_refl _), Nat.sub_self]; rfl
    unfold doT
    simp only [Bool.false_eq_true, if_false]
    rw [tsoW_s hx]
    by_cases h3 : (evOf p r k y).kind = 3
    ·rw [if_pos h3]
     have h3' : (nextW p k y).kind = 3 := h3
     rw [stepB_3 h3'] at hen l1 l2 l3 ⊢
     have hget : ∀ t' : Nat, (r.W.set k (r.W.getD k [] ++ [((evOf p r k y).addr, (r.es.length : Int))])).getD t' [] = if t' = k then r.W.getD k [] ++ [((evOf p r k y).addr, (r.es.length : Int))] else r.W.getD t' [] := fun t' => getW_set hkw _
     have had : (evOf p r k y).addr = (nextW p k y).addr := by unfold evOf; simp only; rw [if_pos (.inr (.inl h3'))]
     refine ⟨h.len, by show (List.set _ _ _).length = (List.set _ _ _).length; rw [List.length_set, List.length_set]; exact h.bl, by show (List.set _ _ _).length = _; rw [List.length_set]; exact h.th, by show (List.set _ _ _).length = (List.set _ _ _).length; rw [List.length_set, List.length_set]; exact h.wl, fun t' => ?_, fun t' q hq => ?_, hwr, fun t' => ?_, hen⟩
     ·show ((r.W.set k _).getD t' []).map _ = (bufAt ⟨r.s.mem, _, r.s.bufs.set k _, r.s.lock⟩ t').map _
      rw [hget, bufAt_get hkb]
      by_cases htk : t' = k
      ·rw [if_pos htk, if_pos htk, List.map_append, List.map_append, h.bw k, had]; rfl
      ·rw [if_neg htk, if_neg htk]; exact h.bw t'
     ·have hq : q ∈ (r.W.set k _).getD t' [] := hq
      rw [hget] at hq
      by_cases htk : t' = k
      ·rw [if_pos htk] at hq
       rcases List.mem_append.1 hq with hq | hq
       ·obtain ⟨j, e, g1, g2, g3, g4, g5, g6, _⟩ := hkeep 0 k q hq
        exact ⟨j, e, g1, g2, g3, g4, by rw [htk]; exact g5, g6⟩
       ·rw [List.mem_singleton.1 hq]
        exact ⟨r.es.length, _, rfl, hlast, rfl, h3, by rw [htk]; rfl, rfl⟩
      ·rw [if_neg htk] at hq
       obtain ⟨j, e, g1, g2, g3, g4, g5, g6, _⟩ := hkeep 0 t' q hq
       exact ⟨j, e, g1, g2, g3, g4, g5, g6⟩
     ·show List.Pairwise _ ((r.W.set k _).getD t' [])
      rw [hget]
      by_cases htk : t' = k
      ·rw [if_pos htk, List.pairwise_append]
       refine ⟨h.srt k, List.pairwise_singleton .., fun q hq q' hq' => ?_⟩
       rw [List.mem_singleton.1 hq']
       obtain ⟨j, e, g1, _, _, _, _, _, g7⟩ := hkeep 0 k q hq
       show q.2 < _
       omega
      ·rw [if_neg htk]; exact h.srt t'
    ·rw [if_neg h3]
     have h3' : (nextW p k y).kind ≠ 3 := h3
     have hbf := step_buf (s := r.s) h3'
     have hev : ∀ t' : Nat, ∀ q ∈ r.W.getD t' [], ∃ (j : Nat) (e : Ev), q.2 = (j : Int) ∧ (r.es ++ [evOf p r k y])[j]? = some e ∧ e.addr = q.1 ∧ e.kind = 3 ∧ e.th = (t' : Int) ∧ e.place = -1 := fun t' q hq => by
      obtain ⟨j, e, g1, g2, g3, g4, g5, g6, _⟩ := hkeep 0 t' q hq
      exact ⟨j, e, g1, g2, g3, g4, g5, g6⟩
     have hbw : ∀ t' : Nat, (r.W.getD t' []).map (·.1) = (bufAt (stepB p r.s k y).1 t').map (·.addr) := fun t' => by
      unfold bufAt; rw [hbf]; exact h.bw t'
     by_cases h4 : (evOf p r k y).kind = 4 ∧ (swapW p k y (rdM r.s (evOf p r k y).addr)).2.2 = true
     ·rw [if_pos h4]
      refine ⟨l1.trans h.len, by rw [show (wrT _ _ _).s = (stepB p r.s k y).1 from rfl, l2, l3]; exact h.bl, l3.trans h.th, by show r.W.length = _; rw [h.wl]; exact l3.symm, hbw, fun t' q hq => ?_, ?_, h.srt, hen⟩
      ·obtain ⟨j, e, g1, g2, g3, g4, g5, g6, g7⟩ := hkeep 0 t' q hq
       refine ⟨j, e, g1, ?_, g3, g4, g5, g6⟩
       show (setP (r.es ++ [evOf p r k y]) r.es.length r.n)[j]? = _
       rw [setP_get, g2, Option.map_some, if_neg (by omega)]
      ·exact wrT_wr (r := ⟨_, r.es ++ [evOf p r k y], r.W, r.wm, r.n⟩) hlast rfl hwr
     ·rw [if_neg h4]
      exact ⟨l1.trans h.len, by show (stepB p r.s k y).1.bufs.length = _; rw [l2, l3]; exact h.bl, l3.trans h.th, by show r.W.length = _; rw [h.wl]; exact l3.symm, hbw, hev, hwr, h.srt, hen⟩
  ·rw [tsoW_out ht] at hd; cases hd
end Go.Proofs.YtpeifhiphfpajaaGreatDoor
namespace Go.Proofs.YtpeifhiphfpajaaGreatDoor
set_option maxRecDepth 20000
open Go Go.Proofs.YtpeifhiphfpajaaGreatDoor.V Go.Proofs
def memEv (k : Int) : Prop := k = 2 ∨ k = 3 ∨ k = 4
structure tP (p : Prg) (r : Tr) : Prop where
 pl : ∀ (i : Nat) (e : Ev), r.es[i]? = some e → e.place = -1 ∨ (0 ≤ e.place ∧ e.place < r.n)
 inj : ∀ (i j : Nat) (e e' : Ev), r.es[i]? = some e → r.es[j]? = some e' → 0 ≤ e.place → e.place = e'.place → i = j
 sur : ∀ v : Nat, v < r.n → ∃ (i : Nat) (e : Ev), r.es[i]? = some e ∧ e.place = (v : Int)
 kd : ∀ (i : Nat) (e : Ev), r.es[i]? = some e → 0 ≤ e.place → e.kind = 3 ∨ e.kind = 4
 wt : ∀ (i : Nat) (e : Ev), r.es[i]? = some e → e.kind = 3 → e.place = -1 → ∃ t : Nat, e.th = (t : Int) ∧ (e.addr, (i : Int)) ∈ r.W.getD t []
 th : ∀ (i : Nat) (e : Ev), r.es[i]? = some e → 0 ≤ e.th ∧ e.th < (p.threads.length : Int)
 ord : ∀ (i j : Nat) (e e' : Ev), i < j → r.es[i]? = some e → r.es[j]? = some e' → e.th = e'.th → 0 ≤ e'.place → (e.kind = 3 → 0 ≤ e.place) ∧ e.place < e'.place
 mm : ∀ (i : Nat) (e : Ev), r.es[i]? = some e → (memEv e.kind ↔ 0 ≤ e.addr) ∧ -1 ≤ e.addr ∧ (-1 ≤ e.frm ∧ e.frm < i) ∧ (¬ (e.kind = 2 ∨ e.kind = 4) → e.frm = -1)
 fr : ∀ (i : Nat) (e : Ev), r.es[i]? = some e → 0 ≤ e.frm → ∃ w, r.es[e.frm.toNat]? = some w ∧ w.addr = e.addr ∧ (0 ≤ w.place ∨ w.kind = 3)
section
variable {p : Prg} {r : Tr}
theorem tP.put (h : tP p r) {e : Ev} {s' : State} {W' : List (List (Int × Int))} (h0 : e.place = -1) (hW : ∀ (t : Nat), ∀ q ∈ r.W.getD t [], q ∈ W'.getD t []) (h3 : e.kind = 3 → ∃ t : Nat, e.th = (t : Int) ∧ (e.addr, (r.es.length : Int)) ∈ W'.getD t [])
  (ht : 0 ≤ e.th ∧ e.th < (p.threads.length : Int)) (hm : (memEv e.kind ↔ 0 ≤ e.addr) ∧ -1 ≤ e.addr ∧ (-1 ≤ e.frm ∧ e.frm < r.es.length) ∧ (¬ (e.kind = 2 ∨ e.kind = 4) → e.frm = -1))
  (hf : 0 ≤ e.frm → ∃ w, r.es[e.frm.toNat]? = some w ∧ w.addr = e.addr ∧ (0 ≤ w.place ∨ w.kind = 3)) : tP p { r with s := s', es := r.es ++ [e], W := W' } := by
 have hg : ∀ (i : Nat) (x : Ev), (r.es ++ [e])[i]? = some x → r.es[i]? = some x ∨ (i = r.es.length ∧ x = e) := fun i x hx => by
  by_cases hi : i < r.es.length
  ·rw [List.getElem?_append_left hi] at hx; exact .inl hx
  ·rw [List.getElem?_append_right (by omega)] at hx
   have hi2 := (List.getElem?_eq_some_iff.1 hx).1
   rw [List.length_singleton] at hi2
   have : i - r.es.length = 0 := by omega
   rw [this] at hx
   cases hx
   exact .inr ⟨by omega, rfl⟩
 have hold : ∀ (i : Nat) (x : Ev), r.es[i]? = some x → (r.es ++ [e])[i]? = some x := fun i x hx => by
  rw [List.getElem?_append_left (List.getElem?_eq_some_iff.1 hx).1]; exact hx
 refine ⟨fun i x hx => ?_, fun i j x y hx hy hp he => ?_, fun v hv => ?_, fun i x hx hp => ?_, fun i x hx hk hp => ?_, fun i x hx => ?_, fun i j x y hij hx hy hth hp => ?_, fun i x hx => ?_, fun i x hx hp => ?_⟩
 ·rcases hg i x hx with hx | ⟨_, rfl⟩
  ·exact h.pl i x hx
  ·exact .inl h0
 ·rcases hg i x hx with hx | ⟨_, rfl⟩
  ·rcases hg j y hy with hy | ⟨_, rfl⟩
   ·exact h.inj i j x y hx hy hp he
   ·omega
  ·omega
 ·obtain ⟨i, x, h1, h2⟩ := h.sur v hv
  exact ⟨i, x, hold i x h1, h2⟩
 ·rcases hg i x hx with hx | ⟨_, rfl⟩
  ·exact h.kd i x hx hp
  ·omega
 ·rcases hg i x hx with hx | ⟨rfl, rfl⟩
  ·obtain ⟨t, h1, h2⟩ := h.wt i x hx hk hp
   exact ⟨t, h1, hW t _ h2⟩
  ·exact h3 hk
 ·rcases hg i x hx with hx | ⟨_, rfl⟩
  ·exact h.th i x hx
  ·exact ht
 ·rcases hg j y hy with hy | ⟨_, rfl⟩
  ·rcases hg i x hx with hx | ⟨hi, _⟩
   ·exact h.ord i j x y hij hx hy hth hp
   ·have := (List.getElem?_eq_some_iff.1 hy).1
    omega
  ·omega
 ·rcases hg i x hx with hx | ⟨rfl, rfl⟩
  ·exact h.mm i x hx
  ·exact hm
 ·rcases hg i x hx with hx | ⟨_, rfl⟩
  ·obtain ⟨w, h1, h2⟩ := h.fr i x hx hp
   exact ⟨w, hold _ w h1, h2⟩
  ·obtain ⟨w, h1, h2⟩ := hf hp
   exact ⟨w, hold _ w h1, h2⟩
theorem tP.place (h : tP p r) {k : Nat} {e : Ev} {a : Int} {s' : State} {W' : List (List (Int × Int))} (he : r.es[k]? = some e) (h0 : e.place = -1) (hk : e.kind = 3 ∨ e.kind = 4) (hW : ∀ (t i : Nat) (b : Int), i ≠ k → (b, (i : Int)) ∈ r.W.getD t [] → (b, (i : Int)) ∈ W'.getD t [])
  (hlo : ∀ (i : Nat) (x : Ev), i < k → r.es[i]? = some x → x.th = e.th → x.kind = 3 → 0 ≤ x.place) (hhi : ∀ (j : Nat) (x : Ev), k < j → r.es[j]? = some x → x.th = e.th → x.place = -1) : tP p (wrT { r with s := s', W := W' } a k) := by
 have hg : ∀ (i : Nat) (x : Ev), (setP r.es k r.n)[i]? = some x → ∃ y, r.es[i]? = some y ∧ x = if i = k then { y with place := (r.n : Int) } else y := fun i x hx => by
  rw [setP_get] at hx
  cases hy : r.es[i]? with
  | none => rw [hy] at hx; cases hx
  | some y => rw [hy] at hx; cases hx; exact ⟨y, rfl, rfl⟩
 have hs : ∀ (i : Nat) (y : Ev), r.es[i]? = some y → (setP r.es k r.n)[i]? = some (if i = k then { y with place := (r.n : Int) } else y) := fun i y hy => by rw [setP_get, hy]; rfl
 have hpl : ∀ (i : Nat) (y : Ev), r.es[i]? = some y → y.place < r.n := fun i y hy => by
  rcases h.pl i y hy with h1 | h1 <;> omega
 refine ⟨fun i x hx => ?_, fun i j x y hx hy hp hxy => ?_, fun v hv => ?_, fun i x hx hp => ?_, fun i x hx hk' hp => ?_, fun i x hx => ?_, fun i j x y hij hx hy hth hp => ?_, fun i x hx => ?_, fun i x hx hp => ?_⟩
 ·obtain ⟨y, hy, rfl⟩ := hg i x hx
  show _ ∨ (_ ∧ _ < ((r.n + 1 : Nat) : Int))
  split
  ·exact .inr ⟨by show (0 : Int) ≤ r.n; omega, by show (r.n : Int) < _; omega⟩
  ·rcases h.pl i y hy with h1 | h1
   ·exact .inl h1
   ·exact .inr ⟨h1.1, by omega⟩
 ·obtain ⟨x', hx', rfl⟩ := hg i x hx
  obtain ⟨y', hy', rfl⟩ := hg j y hy
  by_cases hi : i = k
  ·by_cases hj : j = k
   ·omega
   ·rw [if_pos hi, if_neg hj] at hxy
    have := hpl j y' hy'
    simp only at hxy
    omega
  ·by_cases hj : j = k
   ·rw [if_neg hi, if_pos hj] at hxy
    have := hpl i x' hx'
    simp only at hxy
    omega
   ·rw [if_neg hi, if_neg hj] at hxy
    rw [if_neg hi] at hp
    exact h.inj i j x' y' hx' hy' hp hxy
 ·have hv : v < r.n + 1 := hv
  by_cases hvn : v = r.n
  ·exact ⟨k, _, hs k e he, by rw [if_pos rfl, hvn]⟩
  ·obtain ⟨i, x, h1, h2⟩ := h.sur v (by omega)
   have hik : i ≠ k := fun hc => by
    subst hc
    rw [he] at h1
    cases h1
    omega
   exact ⟨i, _, hs i x h1, by rw [if_neg hik]; exact h2⟩
 ·obtain ⟨y, hy, rfl⟩ := hg i x hx
  by_cases hi : i = k
  ·subst hi
   rw [he] at hy
   cases hy
   rw [if_pos rfl]; exact hk
  ·rw [if_neg hi] at hp ⊢; exact h.kd i y hy hp
 ·obtain ⟨y, hy, rfl⟩ := hg i x hx
  by_cases hi : i = k
  ·rw [if_pos hi] at hp
   simp only at hp
   omega
  ·rw [if_neg hi] at hk' hp ⊢
   obtain ⟨t, h1, h2⟩ := h.wt i y hy hk' hp
   exact ⟨t, h1, hW t i _ hi h2⟩
 ·obtain ⟨y, hy, rfl⟩ := hg i x hx
  have := h.th i y hy
  split
  ·exact this
  ·exact this
 ·obtain ⟨x', hx', rfl⟩ := hg i x hx
  obtain ⟨y', hy', rfl⟩ := hg j y hy
  have hth' : x'.th = y'.th := by
   have e1 : (if i = k then { x' with place := (r.n : Int) } else x').th = x'.th := by split <;> rfl
   have e2 : (if j = k then { y' with place := (r.n : Int) } else y').th = y'.th := by split <;> rfl
   rw [e1, e2] at hth
   exact hth
  by_cases hj : j = k
  ·subst hj
   rw [he] at hy'
   cases hy'
   rw [if_neg (by omega), if_pos rfl]
   exact ⟨hlo i x' hij hx' hth', hpl i x' hx'⟩
  ·rw [if_neg hj] at hp ⊢
   obtain ⟨g1, g2⟩ := h.ord i j x' y' hij hx' hy' hth' hp
   by_cases hi : i = k
   ·subst hi
    rw [he] at hx'
    cases hx'
    have := hhi j y' hij hy' hth'.symm
    omega
   ·rw [if_neg hi]; exact ⟨g1, g2⟩
 ·obtain ⟨y, hy, rfl⟩ := hg i x hx
  have := h.mm i y hy
  split
  ·exact this
  ·exact this
 ·obtain ⟨y, hy, rfl⟩ := hg i x hx
  have e1 : (if i = k then { y with place := (r.n : Int) } else y).frm = y.frm := by split <;> rfl
  have e2 : (if i = k then { y with place := (r.n : Int) } else y).addr = y.addr := by split <;> rfl
  rw [e1] at hp ⊢
  rw [e2]
  obtain ⟨w, h1, h2, h3⟩ := h.fr i y hy hp
  refine ⟨_, hs _ w h1, ?_, ?_⟩
  ·split <;> exact h2
  ·split
   ·exact .inl (by show (0 : Int) ≤ r.n; omega)
   ·exact h3
theorem lastA_mem {l : List (Int × Int)} {a k : Int} (h : lastA l a = some k) : (a, k) ∈ l := by
 unfold lastA at h
 cases hf : l.reverse.find? fun e => decide (e.1 = a) with
 | none => rw [hf] at h; cases h
 | some e =>
  rw [hf] at h
  cases h
  have h1 := List.mem_reverse.1 (List.mem_of_find?_eq_some hf)
  have h2 := List.find?_some hf
  simp only [decide_eq_true_eq] at h2
  rw [← h2]; exact h1
theorem frm_ok (hq : tQ p r) (t : Nat) (a : Int) : -1 ≤ frmW r t a ∧ frmW r t a < r.es.length ∧ (0 ≤ frmW r t a → ∃ w, r.es[(frmW r t a).toNat]? = some w ∧ w.addr = a ∧ (0 ≤ w.place ∨ w.kind = 3)) := by
 unfold frmW
 cases hl : lastA (r.W.getD t []) a with
 | some k =>
  obtain ⟨j, e, h1, h2, h3, h4, _⟩ := hq.ev t _ (lastA_mem hl)
  simp only at h1 h3
  subst h1
  have hj := (List.getElem?_eq_some_iff.1 h2).1
  simp only [Option.getD_some]
  exact ⟨by omega, by omega, fun _ => ⟨e, by rw [Int.toNat_natCast]; exact h2, h3, .inr h4⟩⟩
 | none =>
  simp only [Option.getD_none]
  cases hw : lkI a r.wm with
  | none => simp only [Option.getD_none]; exact ⟨by omega, by omega, fun h => by omega⟩
  | some k =>
   obtain ⟨j, e, h1, h2, h3, h4⟩ := hq.wr a k hw
   subst h1
   have hj := (List.getElem?_eq_some_iff.1 h2).1
   simp only [Option.getD_some]
   exact ⟨by omega, by omega, fun _ => ⟨e, by rw [Int.toNat_natCast]; exact h2, h3, .inl h4⟩⟩
theorem evOf_ok (hc : checkC p = 0) (hq : tQ p r) {k : Nat} {y : Thr} (hk : k < p.threads.length) : (evOf p r k y).place = -1 ∧ (0 ≤ (evOf p r k y).th ∧ (evOf p r k y).th < (p.threads.length : Int)) ∧
  ((memEv (evOf p r k y).kind ↔ 0 ≤ (evOf p r k y).addr) ∧ -1 ≤ (evOf p r k y).addr ∧ (-1 ≤ (evOf p r k y).frm ∧ (evOf p r k y).frm < r.es.length) ∧ (¬ ((evOf p r k y).kind = 2 ∨ (evOf p r k y).kind = 4) → (evOf p r k y).frm = -1)) ∧
  (0 ≤ (evOf p r k y).frm → ∃ w, r.es[(evOf p r k y).frm.toNat]? = some w ∧ w.addr = (evOf p r k y).addr ∧ (0 ≤ w.place ∨ w.kind = 3)) := by
 have had := next_addr hc (t := k) (x := y)
 unfold evOf memEv
 simp only
 generalize nextW p k y = d at *
 refine ⟨trivial, ⟨by omega, by omega⟩, ⟨?_, ?_, ?_, ?_⟩, ?_⟩
 ·by_cases h : d.kind = 2 ∨ d.kind = 3 ∨ d.kind = 4
  ·rw [if_pos h]
   have := (had h).1
   exact ⟨fun _ => this, fun _ => h⟩
  ·rw [if_neg h]
   exact ⟨fun hk => absurd hk h, fun hk => by omega⟩
 ·split
  ·have := (had ‹_›).1; omega
  ·omega
 ·split
  ·obtain ⟨h1, h2, _⟩ := frm_ok hq k d.addr
   exact ⟨h1, h2⟩
  ·exact ⟨by omega, by omega⟩
 ·intro h
  rw [if_neg h]
 ·by_cases h : d.kind = 2 ∨ d.kind = 4
  ·rw [if_pos h, if_pos (h.imp_right .inr)]
   exact (frm_ok hq k d.addr).2.2
  ·rw [if_neg h]; intro h; omega
theorem tP.step (hc : checkC p = 0) (hq : tQ p r) (h : tP p r) (x : Pk) : tP p (trS p r x) := by
 obtain ⟨t, f⟩ := x
 unfold trS
 simp only
 cases hd : (tsoW p r.s t f).2 with
 | false => exact h
 | true =>
  rw [if_pos rfl]
  by_cases ht : 0 ≤ t ∧ t < (r.s.thr.length : Int)
  ·obtain ⟨k, rfl⟩ : ∃ k : Nat, t = k := ⟨t.toNat, by omega⟩
   have hkl : k < r.s.thr.length := by omega
   have hx : r.s.thr[k]? = some r.s.thr[k] := List.getElem?_eq_getElem hkl
   generalize r.s.thr[k] = y at hx
   rw [Int.toNat_natCast, hx]
   simp only
   have hkb : k < r.s.bufs.length := by rw [hq.bl]; exact hkl
   have hkw : k < r.W.length := by rw [hq.wl]; exact hkl
   cases f with
   | true =>
    rw [tsoW_f hkl] at hd
    unfold doT
    simp only [if_true]
    have hbw := hq.bw k
    cases hw : r.W.getD k [] with
    | nil =>
     rw [hw] at hbw
     cases hb : bufAt r.s k with
     | nil => rw [flushW_nil hb] at hd; cases hd
     | cons e B => rw [hb] at hbw; simp at hbw
    | cons q w =>
     obtain ⟨a, j⟩ := q
     obtain ⟨i, ev, e1, e2, e3, e4, e5, e6⟩ := hq.ev k (a, j) (by rw [hw]; exact List.mem_cons_self ..)
     simp only at e1 e3
     subst e1
     simp only
     rw [Int.toNat_natCast]
     have hsrt := hq.srt k
     rw [hw] at hsrt
     refine h.place e2 e6 (.inl e4) (fun t' i' b hi' hm => ?_) (fun i' x' hi' hx' hth hk3 => ?_) (fun j' x' hj' hx' hth => ?_)
     ·rw [getW_set hkw]
      by_cases htk : t' = k
      ·rw [if_pos htk]
       rw [htk, hw] at hm
       rcases List.mem_cons.1 hm with hm | hm
       ·cases hm; exact absurd rfl hi'
       ·exact hm
      ·rw [if_neg htk]; exact hm
     ·rcases h.pl i' x' hx' with hp | hp
      ·obtain ⟨t', g1, g2⟩ := h.wt i' x' hx' hk3 hp
       have : t' = k := by rw [e5] at hth; omega
       rw [this, hw] at g2
       rcases List.mem_cons.1 g2 with g2 | g2
       ·cases g2; omega
       ·have := (List.pairwise_cons.1 hsrt).1 _ g2
        simp only at this
        omega
      ·exact hp.1
     ·rcases h.pl j' x' hx' with hp | hp
      ·exact hp
      ·have := (h.ord i j' ev x' hj' e2 hx' hth.symm hp.1).1 e4
       omega
   | false =>
    rw [tsoW_s hx] at hd
    obtain ⟨o1, o2, o3, o4⟩ := evOf_ok hc hq (k := k) (y := y) (by rw [← hq.th]; exact hkl)
    unfold doT
    simp only [Bool.false_eq_true, if_false]
    by_cases h3 : (evOf p r k y).kind = 3
    ·rw [if_pos h3]
     refine h.put o1 (fun t' q hm => ?_) (fun _ => ⟨k, rfl, ?_⟩) o2 o3 o4
     ·rw [getW_set hkw]
      by_cases htk : t' = k
      ·rw [if_pos htk]; rw [htk] at hm; exact List.mem_append_left _ hm
      ·rw [if_neg htk]; exact hm
     ·rw [getW_set hkw, if_pos rfl]
      exact List.mem_append_right _ (List.mem_singleton.2 rfl)
    ·rw [if_neg h3]
     have hput := h.put (s' := (tsoW p r.s k false).1) (W' := r.W) o1 (fun _ _ hm => hm) (fun hk => absurd hk h3) o2 o3 o4
     by_cases h4 : (evOf p r k y).kind = 4 ∧ (swapW p k y (rdM r.s (evOf p r k y).addr)).2.2 = true
     ·rw [if_pos h4]
      have hlast : (r.es ++ [evOf p r k y])[r.es.length]? = some (evOf p r k y) := by
       rw [List.getElem?_append_right (Nat.le_refl _), Nat.sub_self]; rfl
      have hb : bufAt r.s k = [] := Classical.byContradiction fun hb => by
       rw [stepB_w (.inl h4.1) hb] at hd; cases hd
      have hbw := hq.bw k
      rw [hb] at hbw
      have hwn : r.W.getD k [] = [] := List.map_eq_nil_iff.1 hbw
      refine hput.place (k := r.es.length) hlast o1 (.inr h4.1) (fun _ _ _ _ hm => hm) (fun i x hi hx' hth hk3 => ?_) (fun j x hj hx' hth => ?_)
      ·rcases hput.pl i x hx' with hp | hp
       ·obtain ⟨t', g1, g2⟩ := hput.wt i x hx' hk3 hp
        have : t' = k := by
         have : (evOf p r k y).th = (k : Int) := rfl
         omega
        rw [this] at g2
        rw [show ({ r with s := (tsoW p r.s k false).1, es := r.es ++ [evOf p r k y], W := r.W } : Tr).W = r.W from rfl, hwn] at g2
        cases g2
       ·exact hp.1
      ·have := (List.getElem?_eq_some_iff.1 hx').1
       simp only [lA, List.length_singleton] at this
       omega
     ·rw [if_neg h4]; exact hput
  ·rw [tsoW_out ht] at hd; cases hd
end
end Go.Proofs.YtpeifhiphfpajaaGreatDoor
namespace Go.Proofs.YtpeifhiphfpajaaGreatDoor
set_option maxRecDepth 20000
open Go Go.Proofs.YtpeifhiphfpajaaGreatDoor.V Go.Proofs
section
variable {p : Prg} {r : Tr}
theorem beginR_ok (p : Prg) : tQ p (beginR p) ∧ tP p (beginR p) := by
 have hW : ∀ t : Nat, (beginR p).W.getD t [] = [] := fun t => by
  show (List.replicate _ _).getD t [] = []
  rw [List.getD_eq_getElem?_getD, List.getElem?_replicate]
  split <;> rfl
 have hB : ∀ t : Nat, bufAt (beginR p).s t = [] := fun t => by
  show (List.replicate _ _).getD t [] = []
  rw [List.getD_eq_getElem?_getD, List.getElem?_replicate]
  split <;> rfl
 have he : (beginR p).es = [] := rfl
 refine ⟨⟨rfl, ?_, List.length_replicate .., ?_, fun t => (by rw [hW, hB]; rfl), fun t w hw => (by rw [hW] at hw; cases hw), fun a k h => (by cases h), fun t => (by rw [hW]; exact .nil), start_aE p⟩, ?_⟩
 ·show (List.replicate _ _).length = (List.replicate _ _).length
  rw [List.length_replicate, List.length_replicate]
 ·show (List.replicate _ _).length = (List.replicate _ _).length
  rw [List.length_replicate, List.length_replicate]
 ·constructor
  all_goals intros
  all_goals first
   | (rename_i h; rw [he] at h; cases h; done)
   | (rename_i h _; rw [he] at h; cases h; done)
   | (rename_i h _ _; rw [he] at h; cases h; done)
   | (rename_i h _ _ _; rw [he] at h; cases h; done)
   | (rename_i h _ _ _ _; rw [he] at h; cases h; done)
   | (rename_i h; exact absurd h (Nat.not_lt_zero _))
theorem run_ok (hc : checkC p = 0) : ∀ (l : List Pk) {r : Tr}, tQ p r → tP p r → tQ p (trL p r l) ∧ tP p (trL p r l)
 | [], _, h, k => ⟨h, k⟩
 | x :: l, r, h, k => run_ok hc l (h.step hc x) (k.step hc h x)
theorem trL_app (p : Prg) (r : Tr) (a b : List Pk) : trL p r (a ++ b) = trL p (trL p r a) b := List.foldl_append ..
theorem trS_s (p : Prg) (r : Tr) (x : Pk) : (trS p r x).s = (tsoW p r.s x.1 x.2).1 := by
 obtain ⟨t, f⟩ := x
 unfold trS
 simp only
 by_cases ht : 0 ≤ t ∧ t < (r.s.thr.length : Int)
 ·obtain ⟨k, rfl⟩ : ∃ k : Nat, t = k := ⟨t.toNat, by omega⟩
  have hx : r.s.thr[k]? = some r.s.thr[k] := List.getElem?_eq_getElem (by omega)
  rw [Int.toNat_natCast, hx]
  cases hd : (tsoW p r.s k f).2 with
  | false =>
   simp only [Bool.false_eq_true, if_false]
   cases f with
   | true =>
    rw [tsoW_f (by omega)] at hd ⊢
    unfold flushW at hd ⊢
    split <;> simp_all
   | false =>
    rw [tsoW_s hx] at hd ⊢
    exact (stepB_no' hd).symm
  | true =>
   simp only [if_true]
   unfold doT
   cases f with
   | true =>
    simp only [if_true]
    split <;> rfl
   | false =>
    simp only [Bool.false_eq_true, if_false]
    split
    ·rfl
    ·split <;> rfl
 ·rw [tsoW_out ht]
  simp only [Bool.false_eq_true, if_false]
theorem trL_s (p : Prg) : ∀ (l : List Pk) (r : Tr), (trL p r l).s = sA p r.s l
 | [], _ => rfl
 | x :: l, r => by
  show (trL p (trS p r x) l).s = sA p (tsoW p r.s x.1 x.2).1 l
  rw [trL_s p l, trS_s]
theorem trS_nil (h : tQ p r) {k : Nat} (hk : k < r.s.thr.length) (hw : r.W.getD k [] = []) : trS p r ((k : Int), true) = r ∧ (tsoW p r.s k true).2 = false := by
 have hb : bufAt r.s k = [] := by
  have := h.bw k
  rw [hw] at this
  exact List.map_eq_nil_iff.1 this.symm
 have e : (tsoW p r.s k true).2 = false := by rw [tsoW_f hk, flushW_nil hb]
 refine ⟨?_, e⟩
 unfold trS
 rw [if_neg (by rw [e]; simp)]
theorem trS_cons (h : tQ p r) {k : Nat} (hk : k < r.s.thr.length) {a j : Int} {w : List (Int × Int)} (hw : r.W.getD k [] = (a, j) :: w) : (tsoW p r.s k true).2 = true ∧ trS p r ((k : Int), true) = wrT { r with s := (tsoW p r.s k true).1, W := r.W.set k w } a j.toNat := by
 have hx : r.s.thr[k]? = some r.s.thr[k] := List.getElem?_eq_getElem hk
 have e : (tsoW p r.s k true).2 = true := by
  rw [tsoW_f hk]
  cases hb : bufAt r.s k with
  | nil =>
   have := h.bw k
   rw [hw, hb] at this
   simp at this
  | cons e B => rw [flushW_cons hb]
 refine ⟨e, ?_⟩
 unfold trS
 simp only [Int.toNat_natCast]
 rw [if_pos e, hx]
 unfold doT
 simp only [if_true]
 rw [hw]
theorem trS_W (h : tQ p r) {k : Nat} (hk : k < r.s.thr.length) (j : Nat) : (trS p r ((k : Int), true)).W.getD j [] = if j = k then (r.W.getD k []).tail else r.W.getD j [] := by
 cases hw : r.W.getD k [] with
 | nil =>
  rw [(trS_nil h hk hw).1]
  split
  ·rename_i hj; rw [hj, hw]; rfl
  ·rfl
 | cons q w =>
  obtain ⟨a, i⟩ := q
  rw [(trS_cons h hk hw).2]
  show (r.W.set k w).getD j [] = _
  rw [getW_set (by rw [h.wl]; exact hk)]
  rfl
def drR (p : Prg) (r : Tr) (k : Nat) : Tr := trL p r (List.replicate (r.W.getD k []).length ((k : Int), true))
def drRA (p : Prg) (r : Tr) : Nat → Tr
 | 0 => r
 | n + 1 => drR p (drRA p r n) n
theorem flushR (hc : checkC p = 0) (k : Nat) : ∀ (n : Nat) {r : Tr}, tQ p r → tP p r → k < r.s.thr.length → (tQ p (trL p r (List.replicate n ((k : Int), true))) ∧ tP p (trL p r (List.replicate n ((k : Int), true)))) ∧
  (∀ j, (trL p r (List.replicate n ((k : Int), true))).W.getD j [] = if j = k then (r.W.getD k []).drop n else r.W.getD j []) ∧ (trL p r (List.replicate n ((k : Int), true))).s.thr.length = r.s.thr.length ∧ (trL p r (List.replicate n ((k : Int), true))).es.length = r.es.length
 | 0, r, h, h', _ => ⟨⟨h, h'⟩, fun j => by
   show r.W.getD j [] = _
   split
   ·rename_i hj; rw [hj]; rfl
   ·rfl, rfl, rfl⟩
 | n + 1, r, h, h', hk => by
  have h1 := h.step hc ((k : Int), true)
  have h2 := h'.step hc h ((k : Int), true)
  have hl : (trS p r ((k : Int), true)).s.thr.length = r.s.thr.length := by rw [h1.th, h.th]
  have he : (trS p r ((k : Int), true)).es.length = r.es.length := by
   cases hw : r.W.getD k [] with
   | nil => rw [(trS_nil h hk hw).1]
   | cons q w =>
    obtain ⟨a, i⟩ := q
    rw [(trS_cons h hk hw).2]
    exact setP_len ..
  obtain ⟨g1, g2, g3, g4⟩ := flushR hc k n h1 h2 (by rw [hl]; exact hk)
  rw [List.replicate_succ]
  refine ⟨g1, fun j => ?_, g3.trans hl, g4.trans he⟩
  show (trL p (trS p r ((k : Int), true)) (List.replicate n ((k : Int), true))).W.getD j [] = _
  rw [g2]
  by_cases hj : j = k
  ·rw [if_pos hj, if_pos hj, trS_W h hk, if_pos rfl, List.drop_tail]
  ·rw [if_neg hj, if_neg hj, trS_W h hk, if_neg hj]
theorem drRA_ok (hc : checkC p = 0) (h : tQ p r) (h' : tP p r) : ∀ (n : Nat), n ≤ r.s.thr.length → (tQ p (drRA p r n) ∧ tP p (drRA p r n)) ∧ (∀ j, (drRA p r n).W.getD j [] = if j < n then [] else r.W.getD j []) ∧ (drRA p r n).s.thr.length = r.s.thr.length ∧ (drRA p r n).es.length = r.es.length
 | 0, _ => ⟨⟨h, h'⟩, fun j => by rw [if_neg (Nat.not_lt_zero _)]; rfl, rfl, rfl⟩
 | n + 1, hn => by
  obtain ⟨g1, g2, g3, g4⟩ := drRA_ok hc h h' n (by omega)
  obtain ⟨f1, f2, f3, f4⟩ := flushR hc n ((drRA p r n).W.getD n []).length g1.1 g1.2 (by omega)
  refine ⟨f1, fun j => ?_, f3.trans g3, f4.trans g4⟩
  show (trL p (drRA p r n) _).W.getD j [] = _
  rw [f2]
  by_cases hj : j = n
  ·rw [if_pos hj, List.drop_length, if_pos (by omega)]
  ·rw [if_neg hj, g2]
   by_cases hj2 : j < n
   ·rw [if_pos hj2, if_pos (by omega)]
   ·rw [if_neg hj2, if_neg (by omega)]
def trailR (p : Prg) (l : List Pk) : Tr := drRA p (trL p (beginR p) l) p.threads.length
end
end Go.Proofs.YtpeifhiphfpajaaGreatDoor
