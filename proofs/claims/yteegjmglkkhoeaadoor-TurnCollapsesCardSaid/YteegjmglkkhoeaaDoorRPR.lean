/-
  Walks of functions of the program, and what the laws need of them.
-/
import Derived.Test.YteegjmglkkhoeaaDoorRPL
import Derived.Test.YteegjmglkkhoeaaDoorRPK
import Derived.Test.YteegjmglkkhoeaaDoorRPO
set_option linter.all false
set_option linter.unusedSimpArgs false
set_option linter.unusedVariables false
set_option linter.unnecessarySimpa false
namespace Go.Proofs.YteegjmglkkhoeaaDoor
set_option maxRecDepth 20000
open Go Go.Proofs.YteegjmglkkhoeaaDoor.V Go.Proofs
section
variable {p : Prg} {s a : State} {k j : Nat} {y : Thr}
theorem lastE_cons (e : Entry) (l : List Entry) (x : Int) : lastE (e :: l) x = (lastE l x).orElse fun _ => if e.addr = x then some e.val else none := by
 unfold lastE
 rw [List.reverse_cons, List.find?_append]
 cases (l.reverse.find? fun e => decide (e.addr = x)) with
 | some e' => rfl
 | none =>
  simp only [Option.none_or, List.find?_cons, List.find?_nil, Option.map_none]
  by_cases h : e.addr = x <;> simp [h]
theorem rd_wr {a v b : Int} (ha : 0 ≤ a ∧ a < s.mem.length) (hb : 0 ≤ b) : ({ s with mem := wrM s a v } : State).mem.getD b.toNat 0 = if a = b then v else rdM s b := by
 show (s.mem.set a.toNat v).getD b.toNat 0 = _
 rw [List.getD_eq_getElem?_getD, List.getElem?_set]
 by_cases h : a = b
 ·subst h; rw [if_pos rfl, if_pos (by omega), if_pos rfl]; rfl
 ·rw [if_neg (by omega), if_neg h, rdM, List.getD_eq_getElem?_getD]
theorem seen_flush (he : aE s) (hk : k < s.bufs.length) {x : Int} (hx : 0 ≤ x) : seenW (flushW s k).1 k x = seenW s k x := by
 cases hb : bufAt s k with
 | nil => rw [flushW_nil hb]
 | cons e r =>
  rw [flushW_cons hb]
  have h1 := he.at (k := k) (e := e) (by rw [hb]; exact List.mem_cons_self ..)
  unfold seenW
  rw [bufAt_set hk, hb, lastE_cons]
  cases lastE r x with
  | some v => rfl
  | none =>
   show rdM { s with mem := wrM s e.addr e.val, bufs := s.bufs.set k r } x = _
   have := rd_wr (s := s) (v := e.val) h1 hx
   show ({ s with mem := wrM s e.addr e.val } : State).mem.getD x.toNat 0 = _
   rw [this]
   by_cases h : e.addr = x <;> simp [h]
theorem bufAt_ne {r : List Entry} {m : List Int} {t : List Thr} {lk : Int} (h : j ≠ k) : bufAt ⟨m, t, s.bufs.set k r, lk⟩ j = bufAt s j := by
 unfold bufAt
 rw [List.getD_eq_getElem?_getD, List.getD_eq_getElem?_getD, List.getElem?_set_ne (fun e => h e.symm)]
def cH (p : Prg) (s a : State) (k : Nat) (y : Thr) : Prop :=
 (y.ph = 1 ∧ a.mem = s.mem ∧ a.bufs = s.bufs) ∨
 (y.ph = 2 ∧ a.mem = s.mem ∧ a.bufs = s.bufs ∧ y.la = seenW a k (nextW p k (zPh y)).addr) ∨
 (y.ph = 3 ∧ (swapW p k (zPh y) y.la).2.2 = true ∧
  ((s.bufs = a.bufs.set k (bufAt a k ++ [⟨(nextW p k (zPh y)).addr, (swapW p k (zPh y) y.la).2.1⟩]) ∧ a.mem = s.mem ∧ y.la = seenW a k (nextW p k (zPh y)).addr) ∨
   (a.bufs = s.bufs ∧ bufAt a k = [] ∧ s.mem = wrM a (nextW p k (zPh y)).addr (swapW p k (zPh y) y.la).2.1 ∧ y.la = rdM a (nextW p k (zPh y)).addr)))
structure cL (p : Prg) (s a : State) (k : Nat) (y : Thr) : Prop where
 ck : checkC p = 0
 aa : aS p a
 ae : aE a
 hy : s.thr[k]? = some y
 h4 : (nextW p k (zPh y)).kind = 4
 hl : s.lock = (k : Int) + 1
 ht : a.thr = s.thr.set k (zPh y)
 hc : cH p s a k y
def cI (p : Prg) (s a : State) : Prop := (s = a ∧ aS p a ∧ aE a) ∨ ∃ k y, cL p s a k y
theorem cL.addr0 (h : cL p s a k y) : 0 ≤ (nextW p k (zPh y)).addr := (next_addr h.ck (t := k) (x := zPh y) (.inr (.inr h.h4))).1
theorem cL.at (h : cL p s a k y) : a.thr[k]? = some (zPh y) := by
 rw [h.ht, List.getElem?_set_self (List.getElem?_eq_some_iff.1 h.hy).1]
theorem cL.ne (h : cL p s a k y) (hj : j ≠ k) : a.thr[j]? = s.thr[j]? := by
 rw [h.ht, List.getElem?_set_ne (fun e => hj e.symm)]
theorem cL.buf (h : cL p s a k y) (hj : j ≠ k) : bufAt a j = bufAt s j := by
 rcases h.hc with ⟨_, _, e⟩ | ⟨_, _, e, _⟩ | ⟨_, _, ⟨e, _⟩ | ⟨e, _⟩⟩
 ·unfold bufAt; rw [e]
 ·unfold bufAt; rw [e]
 ·unfold bufAt
  rw [e, List.getD_eq_getElem?_getD, List.getD_eq_getElem?_getD, List.getElem?_set_ne (fun e => hj e.symm)]
 ·unfold bufAt; rw [e]
theorem cH.frame (h : cH p s a k y) (hj : j ≠ k) (c : List Entry) (t t' : List Thr) (l l' : Int) : cH p ⟨s.mem, t, s.bufs.set j c, l⟩ ⟨a.mem, t', a.bufs.set j c, l'⟩ k y := by
 have hb : ∀ (t : List Thr) (l : Int), bufAt ⟨a.mem, t, a.bufs.set j c, l⟩ k = bufAt a k := fun t l => bufAt_ne (fun e => hj e.symm)
 have hs : ∀ x, seenW ⟨a.mem, t', a.bufs.set j c, l'⟩ k x = seenW a k x := fun x => by unfold seenW; rw [hb]; rfl
 rcases h with ⟨h1, h2, h3⟩ | ⟨h1, h2, h3, h5⟩ | ⟨h1, h2, ⟨h3, h5, h6⟩ | ⟨h3, h5, h6, h7⟩⟩
 ·exact .inl ⟨h1, h2, by show a.bufs.set j c = _; rw [h3]⟩
 ·exact .inr (.inl ⟨h1, h2, by show a.bufs.set j c = _; rw [h3], by rw [hs]; exact h5⟩)
 ·refine .inr (.inr ⟨h1, h2, .inl ⟨?_, h5, by rw [hs]; exact h6⟩⟩)
  rw [hb]
  show s.bufs.set j c = (a.bufs.set j c).set k _
  rw [h3, List.set_comm _ _ (fun e => hj e.symm)]
 ·exact .inr (.inr ⟨h1, h2, .inr ⟨by show a.bufs.set j c = _; rw [h3], by rw [hb]; exact h5, h6, h7⟩⟩)
theorem cH.same (h : cH p s a k y) (t t' : List Thr) (l l' : Int) : cH p ⟨s.mem, t, s.bufs, l⟩ ⟨a.mem, t', a.bufs, l'⟩ k y := h
theorem cL.other (h : cL p s a k y) (hj : j ≠ k) {x : Thr} (hx : s.thr[j]? = some x) (h2 : (nextW p j x).kind ≠ 2) (hd : (stepB p s j x).2 = true) (h4' : (nextW p j x).kind ≠ 4) :
  (stepB p a j x).2 = true ∧ cL p (stepB p s j x).1 (stepB p a j x).1 k y ∧ (stepB p s j x).1.lock = s.lock := by
 have hb := h.buf hj
 have hxa : a.thr[j]? = some x := by rw [h.ne hj]; exact hx
 have ha' := h.aa.stepB hxa
 have he' := h.ae.stepB h.ck h.aa.len (t := j) (x := x)
 have hy' : ∀ z : Thr, (s.thr.set j z)[k]? = some y := fun z => by rw [List.getElem?_set_ne hj]; exact h.hy
 have ht' : ∀ z : Thr, a.thr.set j z = (s.thr.set j z).set k (zPh y) := fun z => by rw [h.ht, List.set_comm _ _ (fun e => hj e.symm)]
 by_cases h0 : (nextW p j x).kind = 0
 ·rw [stepB_0 h0] at hd; cases hd
 by_cases h3 : (nextW p j x).kind = 3
 ·rw [stepB_3 h3] at ha' he' ⊢
  rw [stepB_3 h3]
  exact ⟨rfl, ⟨h.ck, ha', he', hy' _, h.h4, h.hl, ht' _, by rw [hb]; exact h.hc.frame hj _ _ _ _ _⟩, rfl⟩
 by_cases h5 : (nextW p j x).kind = 5 ∧ bufAt s j ≠ []
 ·rw [stepB_w (.inr h5.1) h5.2] at hd; cases hd
 ·have g5 : (nextW p j x).kind = 5 → bufAt s j = [] := fun h => Classical.byContradiction fun hc => h5 ⟨h, hc⟩
  rw [stepB_5 h0 h2 h3 h4' (fun h => by rw [hb]; exact g5 h)] at ha' he' ⊢
  rw [stepB_5 h0 h2 h3 h4' g5]
  exact ⟨rfl, ⟨h.ck, ha', he', hy' _, h.h4, h.hl, ht' _, h.hc.same _ _ _ _⟩, rfl⟩
end
end Go.Proofs.YteegjmglkkhoeaaDoor
namespace Go.Proofs.YteegjmglkkhoeaaDoor
set_option maxRecDepth 20000
open Go Go.Proofs.YteegjmglkkhoeaaDoor.V Go.Proofs
section
variable {p : Prg} {s a : State} {k : Nat} {y : Thr}
theorem colK_f (s s' : State) (k : Nat) (hl : s.lock = (k : Int) + 1) (hl' : s'.lock = 0) : colK s s' ((k : Int), false) = true := by
 unfold colK; simp only [hl, hl']; simp <;> omega
theorem colK_h (s s' : State) (k : Nat) (hl : s.lock = (k : Int) + 1) (hl' : s'.lock = (k : Int) + 1) : colK s s' ((k : Int), false) = false := by
 unfold colK; simp only [hl, hl']; simp <;> omega
theorem colK_b (s s' : State) (k : Nat) (hl : s.lock = 0) (hl' : s'.lock = (k : Int) + 1) : colK s s' ((k : Int), false) = false := by
 unfold colK; simp only [hl, hl']; simp <;> omega
theorem colK_0 (s s' : State) (k : Nat) (f : Bool) (hl : s.lock = 0) (hl' : s'.lock = 0) : colK s s' ((k : Int), f) = true := by
 have : decide ((0 : Int) = (k : Int) + 1) = false := dF (by omega)
 unfold colK; simp only [hl, hl', this]; simp
theorem colK_o (s s' : State) (k : Nat) (f : Bool) (hl : s.lock ≠ (k : Int) + 1) (hl' : s'.lock ≠ (k : Int) + 1) : colK s s' ((k : Int), f) = true := by
 unfold colK; simp only [dF hl, dF hl']; simp
theorem colK_t (s s' : State) (k : Nat) (hl : s.lock = (k : Int) + 1) (hy : s.thr[k]? = some y) : colK s s' ((k : Int), true) = !(decide (y.ph = 3) && decide ((bufAt s k).length = 1)) := by
 have g1 : s.thr.getD ((k : Int)).toNat zThr = y := by rw [Int.toNat_natCast, List.getD_eq_getElem?_getD, hy]; rfl
 unfold colK
 rw [g1]
 simp only [hl, Int.toNat_natCast]; simp
theorem cL.lens (h : cL p s a k y) : k < a.bufs.length ∧ k < s.thr.length ∧ a.thr.length = s.thr.length := by
 have hk := (List.getElem?_eq_some_iff.1 h.hy).1
 have e : a.thr.length = s.thr.length := by rw [h.ht, List.length_set]
 exact ⟨by rw [h.aa.bl, e]; exact hk, hk, e⟩
theorem cL.flush (h : cL p s a k y) (hd : (flushW s k).2 = true) : (colK s (flushW s k).1 ((k : Int), true) = true → (flushW a k).2 = true ∧ cL p (flushW s k).1 (flushW a k).1 k y) ∧ (colK s (flushW s k).1 ((k : Int), true) = false → cL p (flushW s k).1 a k y) := by
 obtain ⟨hkb, hkt, hlen⟩ := h.lens
 rw [colK_t s _ k h.hl h.hy]
 have ha' := h.aa.flush k
 have he' := h.ae.flush k
 cases hbs : bufAt s k with
 | nil => rw [flushW_nil hbs] at hd; cases hd
 | cons e r =>
  have mk : ∀ (a' : State), aS p a' → aE a' → a'.thr = a.thr → cH p (flushW s k).1 a' k y → cL p (flushW s k).1 a' k y := fun a' g1 g2 g3 g4 => by
   obtain ⟨f1, f2, f3⟩ := flushW_thr s k
   exact ⟨h.ck, g1, g2, by rw [f1]; exact h.hy, h.h4, by rw [f3]; exact h.hl, by rw [g3, f1]; exact h.ht, g4⟩
  have hta : (flushW a k).1.thr = a.thr := (flushW_thr a k).1
  have hsp : (flushW s k).1 = { s with mem := wrM s e.addr e.val, bufs := s.bufs.set k r } := by rw [flushW_cons hbs]
  rcases h.hc with ⟨h1, h2, h3⟩ | ⟨h1, h2, h3, h5⟩ | ⟨h1, h2, ⟨h3, h5, h6⟩ | ⟨h3, h5, h6, h7⟩⟩
  ·have hba : bufAt a k = e :: r := by unfold bufAt; rw [h3]; exact hbs
   have hap : (flushW a k).1 = { a with mem := wrM a e.addr e.val, bufs := a.bufs.set k r } := by rw [flushW_cons hba]
   refine ⟨fun _ => ⟨by rw [flushW_cons hba], mk _ ha' he' hta (.inl ⟨h1, ?_, ?_⟩)⟩, fun hk => ?_⟩
   ·rw [hsp, hap]; show a.mem.set _ _ = s.mem.set _ _; rw [h2]
   ·rw [hsp, hap]; show a.bufs.set _ _ = _; rw [h3]
   ·rw [h1] at hk; simp at hk
  ·have hba : bufAt a k = e :: r := by unfold bufAt; rw [h3]; exact hbs
   have hap : (flushW a k).1 = { a with mem := wrM a e.addr e.val, bufs := a.bufs.set k r } := by rw [flushW_cons hba]
   refine ⟨fun _ => ⟨by rw [flushW_cons hba], mk _ ha' he' hta (.inr (.inl ⟨h1, ?_, ?_, ?_⟩))⟩, fun hk => ?_⟩
   ·rw [hsp, hap]; show a.mem.set _ _ = s.mem.set _ _; rw [h2]
   ·rw [hsp, hap]; show a.bufs.set _ _ = _; rw [h3]
   ·rw [seen_flush h.ae hkb h.addr0]; exact h5
   ·rw [h1] at hk; simp at hk
  ·have hbb : bufAt s k = bufAt a k ++ [⟨(nextW p k (zPh y)).addr, (swapW p k (zPh y) y.la).2.1⟩] := by
    unfold bufAt
    rw [h3, List.getD_eq_getElem?_getD, List.getElem?_set_self hkb]; rfl
   cases hba : bufAt a k with
   | nil =>
    rw [hba, List.nil_append] at hbb
    rw [hbs] at hbb
    cases hbb
    refine ⟨fun hk => ?_, fun _ => mk a h.aa h.ae rfl (.inr (.inr ⟨h1, h2, .inr ⟨?_, hba, ?_, ?_⟩⟩))⟩
    ·rw [h1] at hk; simp at hk
    ·rw [hsp]; show a.bufs = s.bufs.set k []
     rw [h3, List.set_set, bufs_set_nil hkb hba]
    ·rw [hsp]; show s.mem.set _ _ = a.mem.set _ _; rw [h5]
    ·rw [h6]; unfold seenW; rw [hba]; rfl
   | cons b B =>
    rw [hba] at hbb
    rw [hbs] at hbb
    cases hbb
    have hap : (flushW a k).1 = { a with mem := wrM a e.addr e.val, bufs := a.bufs.set k B } := by rw [flushW_cons hba]
    refine ⟨fun _ => ⟨by rw [flushW_cons hba], mk _ ha' he' hta (.inr (.inr ⟨h1, h2, .inl ⟨?_, ?_, ?_⟩⟩))⟩, fun hk => ?_⟩
    ·rw [hsp, hap]
     show s.bufs.set k _ = (a.bufs.set k B).set k (bufAt { a with mem := wrM a e.addr e.val, bufs := a.bufs.set k B } k ++ _)
     rw [bufAt_set hkb, h3, List.set_set, List.set_set]; rfl
    ·rw [hsp, hap]; show a.mem.set _ _ = s.mem.set _ _; rw [h5]
    ·rw [seen_flush h.ae hkb h.addr0]; exact h6
    ·simp at hk
  ·have : bufAt s k = [] := by unfold bufAt; rw [← h3]; exact h5
   rw [this] at hbs; cases hbs
theorem cL.own (h : cL p s a k y) (hd : (lockedW p s k y).2 = true) : (colK s (lockedW p s k y).1 ((k : Int), false) = true → (stepB p a k (zPh y)).2 = true ∧ cI p (lockedW p s k y).1 (stepB p a k (zPh y)).1) ∧ (colK s (lockedW p s k y).1 ((k : Int), false) = false → cI p (lockedW p s k y).1 a) := by
 obtain ⟨hkb, hkt, hlen⟩ := h.lens
 have hst := h.aa.stepB h.at
 have hse := h.ae.stepB h.ck h.aa.len (t := k) (x := zPh y)
 have mk : ∀ (s' : State) (y' : Thr), s'.thr = s.thr.set k y' → s'.lock = (k : Int) + 1 → zPh y' = zPh y → cH p s' a k y' → cI p s' a := fun s' y' g1 g2 g3 g4 =>
  .inr ⟨k, y', h.ck, h.aa, h.ae, by rw [g1, List.getElem?_set_self hkt], by rw [g3]; exact h.h4, g2, by rw [g1, g3, List.set_set]; exact h.ht, g4⟩
 have fin : bufAt a k = [] → rdM a (nextW p k (zPh y)).addr = y.la → a.bufs = s.bufs → (if (swapW p k (zPh y) y.la).2.2 = true then wrM a (nextW p k (zPh y)).addr (swapW p k (zPh y) y.la).2.1 else a.mem) = s.mem →
   (stepB p a k (zPh y)).2 = true ∧ cI p { s with thr := s.thr.set k (swapW p k (zPh y) y.la).1, lock := 0 } (stepB p a k (zPh y)).1 := fun g1 g2 g3 g4 => by
  have e := stepB_4 (s := a) (x := zPh y) h.h4 g1
  rw [g2] at e
  rw [e] at hst hse ⊢
  refine ⟨rfl, .inl ⟨?_, hst, hse⟩⟩
  simp only [g4]
  rw [h.ht, List.set_set, ← g3, h.aa.lock]
 rcases h.hc with ⟨h1, h2, h3⟩ | ⟨h1, h2, h3, h5⟩ | ⟨h1, h2, ⟨h3, h5, h6⟩ | ⟨h3, h5, h6, h7⟩⟩
 ·rw [lockedW_1 h1]
  refine ⟨fun hk => ?_, fun _ => mk _ { y with la := seenW s k (nextW p k (zPh y)).addr, ph := 2 } rfl h.hl rfl (.inr (.inl ⟨rfl, h2, h3, ?_⟩))⟩
  ·refine absurd (hk.symm.trans (colK_h s _ k h.hl ?_)) (by simp); exact h.hl
  ·show seenW s k (nextW p k (zPh y)).addr = seenW a k (nextW p k (zPh y)).addr
   unfold seenW bufAt rdM; rw [h2, h3]
 ·have hbb : bufAt a k = bufAt s k := by unfold bufAt; rw [h3]
  by_cases hw : (swapW p k (zPh y) y.la).2.2 = true
  ·rw [lockedW_2 h1 hw]
   refine ⟨fun hk => ?_, fun _ => mk _ { y with ph := 3 } rfl h.hl rfl (.inr (.inr ⟨rfl, hw, .inl ⟨?_, h2, h5⟩⟩))⟩
   ·refine absurd (hk.symm.trans (colK_h s _ k h.hl ?_)) (by simp); exact h.hl
   ·show s.bufs.set k (bufAt s k ++ _) = a.bufs.set k (bufAt a k ++ _)
    rw [h3, hbb]; rfl
  ·by_cases hb : bufAt s k = []
   ·rw [lockedW_e (by omega) (by omega) (fun hc => hw hc.2) hb]
    refine ⟨fun _ => fin (by rw [hbb]; exact hb) ?_ h3 (by rw [if_neg hw]; exact h2), fun hk => ?_⟩
    ·rw [h5]; unfold seenW; rw [hbb, hb]; rfl
    ·rw [colK_f s _ k h.hl rfl] at hk; cases hk
   ·rw [lockedW_w (by omega) (by omega) (fun hc => hw hc.2) hb] at hd; cases hd
 ·have hbb : bufAt s k ≠ [] := by
   unfold bufAt
   rw [h3, List.getD_eq_getElem?_getD, List.getElem?_set_self hkb]
   simp
  rw [lockedW_w (by omega) (by omega) (by omega) hbb] at hd; cases hd
 ·have hbb : bufAt s k = [] := by unfold bufAt; rw [← h3]; exact h5
  rw [lockedW_e (by omega) (by omega) (by omega) hbb]
  refine ⟨fun _ => fin h5 h7.symm h3 (by rw [if_pos h2]; exact h6.symm), fun hk => ?_⟩
  rw [colK_f s _ k h.hl rfl] at hk; cases hk
theorem col_step (hc : checkC p = 0) (h : cI p s a) (x : Pk) (hd : (owW p s x.1 x.2).2 = true) :
  (colK s (owW p s x.1 x.2).1 x = true → (tsoW p a x.1 x.2).2 = true ∧ cI p (owW p s x.1 x.2).1 (tsoW p a x.1 x.2).1) ∧ (colK s (owW p s x.1 x.2).1 x = false → cI p (owW p s x.1 x.2).1 a) := by
 obtain ⟨t, f⟩ := x
 simp only at hd ⊢
 obtain ⟨h0, h1⟩ := owW_done hd
 obtain ⟨j, rfl⟩ : ∃ j : Nat, t = j := ⟨t.toNat, by omega⟩
 have hjl : j < s.thr.length := by omega
 have hx : s.thr[j]? = some s.thr[j] := List.getElem?_eq_getElem hjl
 generalize s.thr[j] = x at hx
 rcases h with ⟨rfl, ha, he⟩ | ⟨k, y, h⟩
 ·have hsf := shut_free ha.lock j
  cases f with
  | true =>
   rw [owW_fl hx hsf] at hd ⊢
   rw [tsoW_f hjl, colK_0 s _ j true ha.lock (by rw [(flushW_thr s j).2.2]; exact ha.lock)]
   exact ⟨fun _ => ⟨hd, .inl ⟨rfl, ha.flush j, he.flush j⟩⟩, fun hk => by cases hk⟩
  | false =>
   by_cases h4 : (nextW p j (zPh x)).kind = 4
   ·have hp0 : x.ph = 0 := Classical.byContradiction fun hp => by
     have := ha.held j x hx hp h4
     rw [ha.lock] at this
     omega
    have hz := zPh_id hp0 (ha.la x (List.mem_of_getElem? hx) hp0)
    rw [owW_lk hx h4 hsf, lockedW_0 hp0, colK_b s _ j ha.lock rfl]
    refine ⟨fun hk => (by cases hk), fun _ => .inr ⟨j, { x with ph := 1 }, hc, ha, he, List.getElem?_set_self hjl, ?_, rfl, ?_, .inl ⟨rfl, rfl, rfl⟩⟩⟩
    ·rw [← h4]; rfl
    ·show s.thr = (s.thr.set j _).set j (zPh { x with ph := 1 })
     rw [List.set_set, show zPh { x with ph := 1 } = x by rw [← hz]; rfl]
     refine List.ext_getElem? fun i => ?_
     by_cases hi : i = j
     ·subst hi; rw [List.getElem?_set_self hjl, hx]
     ·rw [List.getElem?_set_ne (fun h => hi h.symm)]
   ·rw [owW_pl hx h4, hsf, plainW_f] at hd ⊢
    have ha' := ha.stepB hx
    rw [tsoW_s hx, colK_0 s _ j false ha.lock ha'.lock]
    exact ⟨fun _ => ⟨hd, .inl ⟨rfl, ha', he.stepB hc ha.len⟩⟩, fun hk => by cases hk⟩
 ·obtain ⟨hkb, hkt, hlen⟩ := h.lens
  by_cases hj : j = k
  ·subst hj
   have := h.hy
   rw [hx] at this
   cases this
   have hsf := shutB_own h.hl
   cases f with
   | true =>
    rw [owW_fl hx hsf] at hd ⊢
    rw [tsoW_f (by omega)]
    obtain ⟨g1, g2⟩ := h.flush hd
    exact ⟨fun hk => ⟨(g1 hk).1, .inr ⟨j, x, (g1 hk).2⟩⟩, fun hk => .inr ⟨j, x, g2 hk⟩⟩
   | false =>
    rw [owW_lk hx h.h4 hsf] at hd ⊢
    rw [tsoW_s h.at]
    exact h.own hd
  ·have hst : shutB s j = true := dT ⟨by rw [h.hl]; omega, by rw [h.hl]; omega⟩
   cases f with
   | true => rw [owW_in hx, if_pos rfl, hst] at hd; cases hd
   | false =>
    by_cases h4 : (nextW p j (zPh x)).kind = 4
    ·rw [owW_in hx, if_neg (by simp), if_pos h4, hst] at hd; cases hd
    ·have hx4 : (nextW p j x).kind ≠ 4 := fun hc => h4 (by rw [next_z hc]; exact hc)
     rw [owW_pl hx h4, hst] at hd ⊢
     by_cases h2 : (nextW p j x).kind = 2
     ·rw [plainW_t h2] at hd; cases hd
     ·rw [plainW_n h2] at hd ⊢
      obtain ⟨g1, g2, g3⟩ := h.other hj hx h2 hd hx4
      rw [tsoW_s (by rw [h.ne hj]; exact hx), colK_o s _ j false (by rw [h.hl]; omega) (by rw [g3, h.hl]; omega)]
      exact ⟨fun _ => ⟨g1, .inr ⟨k, y, g2⟩⟩, fun hk => by cases hk⟩
theorem col_all (hc : checkC p = 0) : ∀ (l : List Pk) {s a : State}, cI p s a → dnA p a (colL p s l) ∧ cI p (sO p s l) (sA p a (colL p s l))
 | [], _, _, h => ⟨trivial, h⟩
 | x :: l, s, a, h => by
  show dnA p a (colS p s x ++ colL p (owW p s x.1 x.2).1 l) ∧ cI p (sO p (owW p s x.1 x.2).1 l) (sA p a (colS p s x ++ colL p (owW p s x.1 x.2).1 l))
  cases hd : (owW p s x.1 x.2).2 with
  | false =>
   have e : colS p s x = [] := by unfold colS; rw [if_neg (by rw [hd]; simp)]
   rw [e, owW_no hd]
   exact col_all hc l h
  | true =>
   obtain ⟨g1, g2⟩ := col_step hc h x hd
   cases hk : colK s (owW p s x.1 x.2).1 x with
   | true =>
    have e : colS p s x = [x] := by unfold colS; rw [if_pos ⟨hd, hk⟩]
    obtain ⟨q1, q2⟩ := g1 hk
    obtain ⟨q3, q4⟩ := col_all hc l q2
    rw [e]
    exact ⟨⟨q1, q3⟩, q4⟩
   | false =>
    have e : colS p s x = [] := by unfold colS; rw [if_neg (by rw [hk]; simp)]
    rw [e]
    exact col_all hc l (g2 hk)
theorem cI.free (h : cI p s a) (h0 : s.lock = 0) : s = a := by
 rcases h with h | ⟨k, y, h⟩
 ·exact h.1
 ·have := h.hl; omega
theorem col_ok (hc : checkC p = 0) (l : List Pk) : dnA p (startT p) (colL p (startT p) l) ∧ ((sO p (startT p) l).lock = 0 → sO p (startT p) l = sA p (startT p) (colL p (startT p) l)) := by
 obtain ⟨h1, h2⟩ := col_all hc l (s := startT p) (a := startT p) (.inl ⟨rfl, start_aS p, start_aE p⟩)
 exact ⟨h1, fun h0 => h2.free h0⟩
end
end Go.Proofs.YteegjmglkkhoeaaDoor
namespace Go.Proofs.YteegjmglkkhoeaaDoor
set_option maxRecDepth 20000
open Go Go.Proofs.YteegjmglkkhoeaaDoor.V Go.Proofs
section
attribute [local irreducible] TwS TwR thenT inBlockT retT nextW localW loadedW swapW Rg.push Rg.pop owW doO tsoW doR expL colL sO runO runT cntO cntT
set_option maxHeartbeats 20000000 in
theorem turnCollapses (l : List (List Act)) (hl : ∀ r ∈ l, ∀ a ∈ r, inR a.n) (picks : List Int) : Pure prog Tabs 4 [cActs l, rwI picks] (tB true) := by
 obtain ⟨p, ho, hc, hn, c1, h3, hq, _⟩ := book_sc l hl
 have hth : (p.threads.map cTh).length = p.threads.length := lM ..
 have hqA := beginM_ok hq
 have hqO := beginO_ok hq
 have c2 := tnew_own p ho hc (start_okS hc) rfl h3
 have c3 := onew_own p ho hc (start_okS hc) rfl h3
 have c4 := picks_own (G := Tabs) picks (p.threads.map cTh).length 50 (by omega) (by decide)
 have hsl := picksF_len picks (p.threads.map cTh).length 50
 generalize picksF picks (p.threads.map cTh).length 50 = row at c4 hsl
 have hsm : (row.map cPick).length = row.length := lM ..
 have c5 := orun_own p ho hc hn (beginM p) hqO row (by omega) h3
 have hcl := colL_len p row (startT p)
 obtain ⟨x1, x2⟩ := col_ok hc row
 have hqo := hqO.run hc hn row
 have c9 := ostate_own (G := Tabs) p _ hqo (by omega) (by have := hqo.memLen hc; omega) h3
 have hso : (runO p (beginM p) row).1 = sO p (startT p) row := runO_s p row (beginM p)
 have c11 := aliveT_spec
 have hR0 : (beginM p).2.length ≤ 3 := by show (List.replicate _ _).length ≤ 3; rw [List.length_replicate]; exact h3
 generalize cntO p (beginM p) row = cn at c5
 obtain ⟨s2, R2, hq2, hl2, hR2⟩ := hqo.split hqO h3
 rw [hq2] at c5 c9 hso
 simp only at hso c5 c9
 by_cases hL : s2.lock = 0
 ·have hL' : (sO p (startT p) row).lock = 0 := by rw [← hso]; exact hL
  have c6 := collapse_t p ho hc hn hq h3 row (by omega) hL'
  have c7 := trun_own p ho hc hn (beginM p) hqA (colL p (startT p) row) (by omega) h3
  have hcnt : cntT p (beginM p) (colL p (startT p) row) = (colL p (startT p) row).length := cntT_all x1
  rw [hcnt] at c7
  have hqa := hqA.run hc hn (colL p (startT p) row)
  have c8 := tstate_own (G := Tabs) p _ hqa (by omega) (by have := hqa.memLen hc; omega) h3
  have hss : s2 = (runT p (beginM p) (colL p (startT p) row)).1 := by rw [runT_s, hso]; exact x2 hL'
  have hok := hqa.okS hc (by omega) (by omega)
  have c10 := sameSt_spec (G := Tabs) _ hok
  clear x1 x2 hcnt hso hL'
  generalize colL p (startT p) row = k at *
  have hkm : (k.map cPick).length = k.length := lM ..
  obtain ⟨s1, R1, hq1, hl1, hR1⟩ := hqa.split hqA h3
  rw [hq1] at c7 c8 c10 hss
  simp only at hss
  subst hss
  clear hqa hqo hqA hqO hq1 hq2 hok
  generalize beginM p = q0 at *
  obtain ⟨s0, R0⟩ := q0
  simp only at c2 c3 c5 c7 c8 c9 c10 hl1 hl2 hR0
  rcases rows33 hR0 hl1 with ⟨rfl, rfl⟩ | ⟨_, _, rfl, rfl⟩ | ⟨_, _, _, _, rfl, rfl⟩ | ⟨_, _, _, _, _, _, rfl, rfl⟩
  all_goals rcases rows3 hR2 with rfl | ⟨_, rfl⟩ | ⟨_, _, rfl⟩ | ⟨_, _, _, rfl⟩
  all_goals first | (exfalso; simp at hl2; done) | skip
  all_goals
   refine Pure.at mixedOk F4 rfl fun C hP hG hp => goF ?_; simp only [F4, targEnv, Nat.zero_add, Nat.reduceAdd]
   repeat' (first | refine goR rfl ?_ | refine goS rfl ?_ | refine tret1 rfl ?_ | refine tretN rfl ?_ | refine gY rfl rfl ?_ | refine gN rfl rfl ?_ | refine qT rfl rfl ?_ | refine qF rfl rfl ?_ | refine cA rfl (by rw [hP]; exact c1 _) rfl ?_ | refine tr_mcallX hP hG (c2) rfl rfl rfl rfl rfl rfl rfl rfl rfl rfl rfl rfl ?_ | refine tr_mcallX hP hG (c3) rfl rfl rfl rfl rfl rfl rfl rfl rfl rfl rfl rfl ?_ | (refine tr_mcallX hP hG (c4) rfl rfl rfl rfl rfl rfl rfl rfl rfl rfl rfl rfl ?_; refine tr_frzS 17 rfl rfl hsm.symm ?_) | refine tr_mcallX hP hG (c5) rfl rfl rfl rfl rfl rfl rfl rfl rfl rfl rfl rfl ?_ | refine cA rfl (by rw [hP, hG]; exact c6) rfl ?_ | refine tr_mcallX hP hG (c7) rfl rfl rfl rfl rfl rfl rfl rfl rfl rfl rfl rfl ?_ | refine tr_mcallX hP hG (c8) rfl rfl rfl rfl rfl rfl rfl rfl rfl rfl rfl rfl ?_ | refine tr_mcallX hP hG (c9) rfl rfl rfl rfl rfl rfl rfl rfl rfl rfl rfl rfl ?_ | refine tr_callV hP hG (c10) rfl (by (repeat' first | exact FzL.nil | refine FzL.cons ?_ ?_ | exact Fz.fr rfl | exact Fz.nil _ | exact Fz.s _ _ _ _ _ _ rfl (lM ..).symm | exact Fz.s _ _ _ _ _ _ rfl rfl | refine Fz.pL rfl ?_ | refine Fz.aggL ?_); first | done | fail) rfl ?_ | refine cA rfl (by rw [hP, hG]; exact c11) rfl ?_ | ((first | refine gS rfl (fun h => ?_) (fun h => ?_) | refine ts_cond rfl (fun h => ?_) (fun h => ?_)) <;> (try simp only [bs0, beq_iff_eq] at h) <;> try (exfalso; omega; done)) | fail)
   all_goals exact .fr rfl
 ·have hL' : (sO p (startT p) row).lock ≠ 0 := by rw [← hso]; exact hL
  have c6 := collapse_f p ho hc hn hq h3 row (by omega) hL'
  clear x1 x2 hso hL' hqo hqA hqO hq2
  generalize beginM p = q0 at *
  obtain ⟨s0, R0⟩ := q0
  simp only at c2 c3 c5 c9 hl2 hR0
  rcases rows33 hR0 hl2 with ⟨rfl, rfl⟩ | ⟨_, _, rfl, rfl⟩ | ⟨_, _, _, _, rfl, rfl⟩ | ⟨_, _, _, _, _, _, rfl, rfl⟩
  all_goals
   refine Pure.at mixedOk F4 rfl fun C hP hG hp => goF ?_; simp only [F4, targEnv, Nat.zero_add, Nat.reduceAdd]
   repeat' (first | refine goR rfl ?_ | refine goS rfl ?_ | refine tret1 rfl ?_ | refine tretN rfl ?_ | refine gY rfl rfl ?_ | refine gN rfl rfl ?_ | refine qT rfl rfl ?_ | refine qF rfl rfl ?_ | refine cA rfl (by rw [hP]; exact c1 _) rfl ?_ | refine tr_mcallX hP hG (c2) rfl rfl rfl rfl rfl rfl rfl rfl rfl rfl rfl rfl ?_ | refine tr_mcallX hP hG (c3) rfl rfl rfl rfl rfl rfl rfl rfl rfl rfl rfl rfl ?_ | (refine tr_mcallX hP hG (c4) rfl rfl rfl rfl rfl rfl rfl rfl rfl rfl rfl rfl ?_; refine tr_frzS 17 rfl rfl hsm.symm ?_) | refine tr_mcallX hP hG (c5) rfl rfl rfl rfl rfl rfl rfl rfl rfl rfl rfl rfl ?_ | refine cA rfl (by rw [hP, hG]; exact c6) rfl ?_ | refine tr_mcallX hP hG (c9) rfl rfl rfl rfl rfl rfl rfl rfl rfl rfl rfl rfl ?_ | refine cA rfl (by rw [hP, hG]; exact c11) rfl ?_ | ((first | refine gS rfl (fun h => ?_) (fun h => ?_) | refine ts_cond rfl (fun h => ?_) (fun h => ?_)) <;> (try simp only [bs0, beq_iff_eq] at h) <;> try (exfalso; omega; done)) | fail)
   all_goals exact .fr rfl
end
end Go.Proofs.YteegjmglkkhoeaaDoor
