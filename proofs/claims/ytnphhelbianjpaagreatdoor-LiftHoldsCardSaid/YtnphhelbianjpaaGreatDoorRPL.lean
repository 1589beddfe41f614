/-
  Walks of functions of the program, and what the laws need of them.
-/
import Derived.Test.YtnphhelbianjpaaGreatDoorRPI
import Derived.Test.YtnphhelbianjpaaGreatDoorRPE
set_option linter.all false
set_option linter.unusedSimpArgs false
set_option linter.unusedVariables false
set_option linter.unnecessarySimpa false
namespace Go.Proofs.YtnphhelbianjpaaGreatDoor
set_option maxRecDepth 20000
open Go Go.Proofs.YtnphhelbianjpaaGreatDoor.V Go.Proofs
abbrev Pk := Int × Bool
def sA (p : Prg) (s : State) (l : List Pk) : State := l.foldl (fun s x => (tsoW p s x.1 x.2).1) s
theorem runT_s (p : Prg) : ∀ (l : List Pk) (q : MS), (runT p q l).1 = sA p q.1 l
 | [], _ => rfl
 | x :: l, q => runT_s p l (mW p q x)
theorem sA_app (p : Prg) (s : State) (a b : List Pk) : sA p s (a ++ b) = sA p (sA p s a) b := List.foldl_append ..
def dnA (p : Prg) : State → List Pk → Prop
 | _, [] => True
 | s, x :: l => (tsoW p s x.1 x.2).2 = true ∧ dnA p (tsoW p s x.1 x.2).1 l
theorem dnA_app {p : Prg} : ∀ {a b : List Pk} {s : State}, dnA p s a → dnA p (sA p s a) b → dnA p s (a ++ b)
 | [], _, _, _, h => h
 | x :: a, b, s, h, k => ⟨h.1, dnA_app (a := a) h.2 k⟩
def aE (s : State) : Prop := ∀ l ∈ s.bufs, ∀ e ∈ l, 0 ≤ e.addr ∧ e.addr < s.mem.length
section
variable {p : Prg} {s a : State} {k j : Nat} {y : Thr}
theorem bufAt_mem {e : Entry} (h : e ∈ bufAt s k) : ∃ l ∈ s.bufs, e ∈ l := by
 unfold bufAt at h
 rw [List.getD_eq_getElem?_getD] at h
 cases hg : s.bufs[k]? with
 | none => rw [hg] at h; cases h
 | some l => rw [hg] at h; exact ⟨l, List.mem_of_getElem? hg, h⟩
theorem aE.at (h : aE s) {e : Entry} (he : e ∈ bufAt s k) : 0 ≤ e.addr ∧ e.addr < s.mem.length := by
 obtain ⟨l, hl, hm⟩ := bufAt_mem he
 exact h l hl e hm
theorem aE.flush (h : aE s) (k : Nat) : aE (flushW s k).1 := by
 unfold flushW
 cases hb : bufAt s k with
 | nil => exact h
 | cons e r =>
  intro l hl e' he'
  rcases List.mem_or_eq_of_mem_set hl with h1 | rfl
  ·have := h l h1 e' he'
   exact ⟨this.1, by show _ < ((wrM s e.addr e.val).length : Int); rw [wrM_len]; exact this.2⟩
  ·have := h.at (k := k) (e := e') (by rw [hb]; exact List.mem_cons_of_mem _ he')
   exact ⟨this.1, by show _ < ((wrM s e.addr e.val).length : Int); rw [wrM_len]; exact this.2⟩
theorem aE.stepB (hc : checkC p = 0) (hl : s.mem.length = (startF p.syms).length) (h : aE s) {t : Nat} {x : Thr} : aE (stepB p s t x).1 := by
 have key : ∀ m : List Int, m.length = s.mem.length → ∀ l ∈ s.bufs, ∀ e ∈ l, 0 ≤ e.addr ∧ e.addr < (m.length : Int) := fun m hm l hl e he => by rw [hm]; exact h l hl e he
 by_cases h0 : (nextW p t x).kind = 0
 ·rw [stepB_0 h0]; exact h
 by_cases h2 : (nextW p t x).kind = 2
 ·rw [stepB_2 h2]; exact h
 by_cases h3 : (nextW p t x).kind = 3
 ·rw [stepB_3 h3]
  obtain ⟨g1, g2⟩ := next_addr hc (t := t) (x := x) (.inr (.inl h3))
  rw [← hl] at g2
  intro l hl e he
  rcases List.mem_or_eq_of_mem_set hl with h1 | rfl
  ·exact h l h1 e he
  ·rcases List.mem_append.1 he with he | he
   ·exact h.at he
   ·rw [List.mem_singleton.1 he]; exact ⟨g1, g2⟩
 by_cases h5 : ((nextW p t x).kind = 4 ∨ (nextW p t x).kind = 5) ∧ bufAt s t ≠ []
 ·rw [stepB_w h5.1 h5.2]; exact h
 by_cases h4 : (nextW p t x).kind = 4
 ·rw [stepB_4 h4 (Classical.byContradiction fun hb => h5 ⟨.inl h4, hb⟩)]
  refine key _ ?_
  split
  ·exact wrM_len ..
  ·rfl
 ·rw [stepB_5 h0 h2 h3 h4 (fun h => Classical.byContradiction fun hb => h5 ⟨.inr h, hb⟩)]; exact h
end
end Go.Proofs.YtnphhelbianjpaaGreatDoor
namespace Go.Proofs.YtnphhelbianjpaaGreatDoor
set_option maxRecDepth 20000
open Go Go.Proofs.YtnphhelbianjpaaGreatDoor.V Go.Proofs
def fenI (ls : List ByteArray) : Ins := ⟨12, false, 0, noOpd, noOpd, bs [], ls⟩
def bareI (i : Ins) : Ins := { i with labels := [] }
def wvL (l : List Int) : Nat → List Ins → List Ins
 | _, [] => []
 | k, i :: r => if (k : Int) ∈ l then fenI i.labels :: bareI i :: wvL l (k + 1) r else i :: wvL l (k + 1) r
def wvT : List (List Int) → List (List Ins) → List (List Ins)
 | _, [] => []
 | [], t :: r => t :: wvT [] r
 | l :: ls, t :: r => wvL l 0 t :: wvT ls r
def wvP (p : Prg) (pts : List (List Int)) : Prg := ⟨p.syms, wvT pts p.threads⟩
def cutN (l : List Int) : Nat → Nat → Nat
 | _, 0 => 0
 | k, n + 1 => (if (k : Int) ∈ l then 1 else 0) + cutN l (k + 1) n
def entN (l : List Int) (n : Nat) : Nat := n + cutN l 0 n
theorem cutN_succ (l : List Int) : ∀ (n k : Nat), cutN l k (n + 1) = cutN l k n + if ((k + n : Nat) : Int) ∈ l then 1 else 0
 | 0, k => by show (if _ then 1 else 0) + 0 = 0 + _; rw [Nat.add_zero, Nat.zero_add]; rfl
 | n + 1, k => by
  show (if _ then 1 else 0) + cutN l (k + 1) (n + 1) = (if _ then 1 else 0) + cutN l (k + 1) n + _
  rw [cutN_succ l n (k + 1), show k + 1 + n = k + (n + 1) by omega, ← Nat.add_assoc]
theorem entN_succ (l : List Int) (n : Nat) : entN l (n + 1) = entN l n + 1 + if (n : Int) ∈ l then 1 else 0 := by
 unfold entN
 rw [cutN_succ, Nat.zero_add]; omega
theorem wvL_nil : ∀ (t : List Ins) (k : Nat), wvL [] k t = t
 | [], _ => rfl
 | i :: r, k => by rw [wvL, if_neg (List.not_mem_nil), wvL_nil r]
theorem wvL_len (l : List Int) : ∀ (r : List Ins) (k : Nat), (wvL l k r).length = r.length + cutN l k r.length
 | [], _ => rfl
 | i :: r, k => by
  rw [wvL, List.length_cons, cutN]
  split
  ·rw [List.length_cons, List.length_cons, wvL_len l r]; omega
  ·rw [List.length_cons, wvL_len l r]; omega
theorem wvL_at (l : List Int) : ∀ (r : List Ins) (k n : Nat) (i : Ins), r[n]? = some i → (wvL l k r)[n + cutN l k n]? = some (if ((k + n : Nat) : Int) ∈ l then fenI i.labels else i) ∧ (((k + n : Nat) : Int) ∈ l → (wvL l k r)[n + cutN l k n + 1]? = some (bareI i))
 | [], _, _, _, h => by simp at h
 | j :: r, k, 0, i, h => by
  cases h
  rw [wvL]
  show (if _ then _ else _)[0]? = some (if ((k : Nat) : Int) ∈ l then _ else _) ∧ (((k : Nat) : Int) ∈ l → (if _ then _ else _)[1]? = _)
  split
  ·exact ⟨rfl, fun _ => rfl⟩
  ·exact ⟨rfl, fun h => absurd h (by assumption)⟩
 | j :: r, k, n + 1, i, h => by
  have h := wvL_at l r (k + 1) n i (by simpa using h)
  rw [show k + 1 + n = k + (n + 1) by omega] at h
  rw [wvL, cutN]
  split
  ·rw [show n + 1 + (1 + cutN l (k + 1) n) = n + cutN l (k + 1) n + 1 + 1 by omega]
   exact h
  ·rw [show n + 1 + (0 + cutN l (k + 1) n) = n + cutN l (k + 1) n + 1 by omega]
   exact h
theorem wvT_nil : ∀ ts : List (List Ins), wvT [] ts = ts
 | [] => rfl
 | t :: r => by rw [wvT, wvT_nil r]
theorem wvT_get : ∀ (pts : List (List Int)) (ts : List (List Ins)) (t : Nat), (wvT pts ts)[t]? = (ts[t]?).map (wvL (pts.getD t []) 0)
 | _, [], t => by rw [wvT]; rfl
 | [], x :: r, t => by
  rw [wvT_nil]
  have : (wvL ([].getD t []) 0 : List Ins → List Ins) = id := by
   funext z
   rw [List.getD_eq_getElem?_getD]
   exact wvL_nil z 0
  rw [this]
  simp
 | l :: ls, x :: r, 0 => rfl
 | l :: ls, x :: r, t + 1 => by
  rw [wvT]
  show (wvT ls r)[t]? = _
  rw [wvT_get ls r t]
  rfl
theorem wvT_len : ∀ (pts : List (List Int)) (ts : List (List Ins)), (wvT pts ts).length = ts.length
 | _, [] => by rw [wvT]
 | [], x :: r => by rw [wvT_nil]
 | l :: ls, x :: r => by rw [wvT, List.length_cons, List.length_cons, wvT_len ls r]
theorem getT_wv (p : Prg) (pts : List (List Int)) (t : Nat) : getT (wvP p pts) t = (p.threads[t]?).map (wvL (pts.getD t []) 0) := by
 unfold getT
 rw [if_pos (by omega)]
 exact wvT_get ..
theorem getT_nat (p : Prg) (t : Nat) : getT p t = p.threads[t]? := by
 unfold getT
 rw [if_pos (by omega)]; rfl
theorem labMap_wv (l : List Int) : ∀ (r : List Ins) (k : Nat), labMapF (entN l k : Nat) (wvL l k r) = (labMapF (k : Int) r).map fun e => (e.1, ((entN l e.2.toNat : Nat) : Int))
 | [], k => by rw [wvL, labMapF, labMapF]; rfl
 | i :: r, k => by
  have h := labMap_wv l r (k + 1)
  rw [entN_succ] at h
  rw [wvL, labMapF.eq_def (k : Int)]
  simp only [List.map_append, List.map_map]
  have e1 : ((fun e : ByteArray × Int => (e.1, ((entN l e.2.toNat : Nat) : Int))) ∘ fun s => (s, (k : Int))) = fun s => (s, ((entN l k : Nat) : Int)) := by funext s; simp
  rw [e1]
  split
  ·rename_i hk
   rw [if_pos hk] at h
   rw [labMapF, labMapF]
   show (i.labels.map _) ++ ((([] : List ByteArray).map _) ++ _) = _
   rw [List.map_nil, List.nil_append]
   rw [show ((k + 1 : Nat) : Int) = (k : Int) + 1 by omega] at h
   rw [← h]
   rw [show ((entN l k : Nat) : Int) + 1 + 1 = ((entN l k + 1 + 1 : Nat) : Int) by omega]
  ·rename_i hk
   rw [if_neg hk] at h
   rw [labMapF]
   rw [show ((k + 1 : Nat) : Int) = (k : Int) + 1 by omega] at h
   rw [← h]
   rw [show ((entN l k : Nat) : Int) + 1 = ((entN l k + 1 + 0 : Nat) : Int) by omega]
theorem lkp_mapG {α β : Type} (s : ByteArray) (g : α → β) : ∀ L : List (ByteArray × α), lkp s (L.map fun e => (e.1, g e.2)) = (lkp s L).map g
 | [] => rfl
 | e :: L => by
  show (if s = e.1 then some (g e.2) else lkp s (L.map _)) = _
  rw [lkp_mapG s g L, lkp]
  split <;> rfl
theorem lab_range (s : ByteArray) : ∀ (r : List Ins) (k : Nat) (v : Int), lkp s (labMapF (k : Int) r) = some v → (k : Int) ≤ v ∧ v < ((k + r.length : Nat) : Int)
 | [], k, v, h => by rw [labMapF] at h; cases h
 | i :: r, k, v, h => by
  rw [labMapF, lkp_app] at h
  cases hi : lkp s (i.labels.map fun s => (s, (k : Int))) with
  | some v' =>
   rw [hi] at h
   have hv : v' = v := by simpa using h
   subst hv
   have : v' = (k : Int) := by
    clear h
    generalize i.labels = L at hi
    induction L with
    | nil => cases hi
    | cons a L ih =>
     rw [List.map_cons, lkp] at hi
     split at hi
     ·cases hi; rfl
     ·exact ih hi
   rw [List.length_cons]; omega
  | none =>
   rw [hi] at h
   have h : lkp s (labMapF ((k + 1 : Nat) : Int) r) = some v := by simpa using h
   have := lab_range s r (k + 1) v h
   rw [List.length_cons]; omega
theorem tgt_range {p : Prg} {t : Nat} {ins : List Ins} (ht : p.threads[t]? = some ins) (i : Ins) : 0 ≤ tgtOf p t i ∧ tgtOf p t i ≤ ins.length := by
 unfold tgtOf
 rw [getT_nat, ht]
 simp only
 cases h : lkp i.to (labMap ins) with
 | none => show (0 : Int) ≤ 0 ∧ (0 : Int) ≤ _; omega
 | some v =>
  have := lab_range i.to ins 0 v h
  show 0 ≤ v ∧ v ≤ _
  omega
theorem tgt_wv {p : Prg} {t : Nat} {ins : List Ins} (pts : List (List Int)) (ht : p.threads[t]? = some ins) (i : Ins) : tgtOf (wvP p pts) t i = ((entN (pts.getD t []) (tgtOf p t i).toNat : Nat) : Int) := by
 unfold tgtOf
 rw [getT_wv, getT_nat, ht]
 show (lkp i.to (labMapF ((entN (pts.getD t []) 0 : Nat) : Int) (wvL (pts.getD t []) 0 ins))).getD 0 = _
 rw [labMap_wv, lkp_mapG i.to (fun v : Int => ((entN (pts.getD t []) v.toNat : Nat) : Int))]
 show _ = ((entN _ ((lkp i.to (labMapF 0 ins)).getD 0).toNat : Nat) : Int)
 cases lkp i.to (labMapF ((0 : Nat) : Int) ins) with
 | none => rfl
 | some v => rfl
def rises (l : List Int) : Prop := List.Pairwise (fun a b => a < b) l ∧ ∀ a ∈ l, 0 ≤ a
def fenF : Nat → List Int → List Int
 | _, [] => []
 | k, n :: r => (n + k) :: fenF (k + 1) r
def ltN (l : List Int) (m : Int) : Nat := l.countP fun a => decide (a < m)
theorem ltN_cons (x : Int) (r : List Int) (m : Int) : ltN (x :: r) m = ltN r m + if x < m then 1 else 0 := by
 unfold ltN; rw [List.countP_cons]; simp
theorem ltN_none {l : List Int} {m : Int} (h : ∀ a ∈ l, m ≤ a) : ltN l m = 0 := by
 unfold ltN
 rw [List.countP_eq_zero]
 intro a ha
 have := h a ha
 simp; omega
theorem fenF_ge : ∀ (l : List Int) (k : Nat) (m : Int), (∀ a ∈ l, m ≤ a) → ∀ f ∈ fenF k l, m + k ≤ f
 | [], _, _, _, f, hf => by cases hf
 | x :: r, k, m, h, f, hf => by
  rcases List.mem_cons.1 hf with rfl | hf
  ·have := h x (List.mem_cons_self ..); omega
  ·have := fenF_ge r (k + 1) m (fun a ha => h a (List.mem_cons_of_mem _ ha)) f hf
   omega
theorem fenF_lt : ∀ (l : List Int) (k : Nat) (m : Int), List.Pairwise (fun a b => a < b) l → ltN (fenF k l) (m + ltN l m + k) = ltN l m
 | [], _, _, _ => rfl
 | x :: r, k, m, h => by
  have hr := List.pairwise_cons.1 h
  show ltN ((x + k) :: fenF (k + 1) r) _ = _
  by_cases hx : x < m
  ·have hi := fenF_lt r (k + 1) m hr.2
   rw [ltN_cons, ltN_cons, if_pos hx, if_pos (by omega)]
   rw [show m + ((ltN r m + 1 : Nat) : Int) + (k : Int) = m + (ltN r m : Int) + ((k + 1 : Nat) : Int) by omega, hi]
  ·have h0 : ltN r m = 0 := ltN_none fun a ha => by have := hr.1 a ha; omega
   rw [ltN_cons, ltN_cons, if_neg hx, h0]
   have h2 : ltN (fenF (k + 1) r) (m + (k : Int)) = 0 := ltN_none fun f hf => by
    have := fenF_ge r (k + 1) m (fun a ha => by have := hr.1 a ha; omega) f hf
    omega
   rw [show m + ((0 + 0 : Nat) : Int) + (k : Int) = m + (k : Int) by omega, h2, if_neg (by omega)]
theorem ltN_succ : ∀ {l : List Int} (_ : List.Pairwise (fun a b => a < b) l) (m : Int), ltN l (m + 1) = ltN l m + if m ∈ l then 1 else 0
 | [], _, _ => rfl
 | x :: r, h, m => by
  have hr := List.pairwise_cons.1 h
  rw [ltN_cons, ltN_cons, ltN_succ hr.2 m]
  by_cases hx : x = m
  ·subst hx
   have : x ∉ r := fun hm => by have := hr.1 x hm; omega
   rw [if_neg this, if_pos (by omega), if_neg (by omega), if_pos (List.mem_cons_self ..)]
  ·have e : (m ∈ x :: r) ↔ m ∈ r := by
    rw [List.mem_cons]
    exact ⟨fun h => h.resolve_left (fun e => hx e.symm), .inr⟩
   by_cases hm : m ∈ r
   ·rw [if_pos hm, if_pos (e.2 hm)]
    have : (if x < m + 1 then 1 else 0) = (if x < m then 1 else 0 : Nat) := by split <;> split <;> omega
    omega
   ·rw [if_neg hm, if_neg (fun h => hm (e.1 h))]
    have : (if x < m + 1 then 1 else 0) = (if x < m then 1 else 0 : Nat) := by split <;> split <;> omega
    omega
theorem ltN_cut {l : List Int} (h : rises l) : ∀ n : Nat, ltN l n = cutN l 0 n
 | 0 => ltN_none fun a ha => by have := h.2 a ha; omega
 | n + 1 => by
  rw [cutN_succ, Nat.zero_add, ← ltN_cut h n, ← ltN_succ h.1]; rfl
def backW (l : List Int) (pc : Int) : Int := pc - ltN (fenF 0 l) pc
theorem back_ent {l : List Int} (h : rises l) (n : Nat) : backW l (entN l n : Nat) = n := by
 have := fenF_lt l 0 n h.1
 unfold backW entN
 rw [← ltN_cut h n]
 rw [show (((n + ltN l n : Nat)) : Int) = (n : Int) + (ltN l n : Int) + ((0 : Nat) : Int) by omega, this]
 omega
theorem mem_fenF : ∀ (l : List Int) (k : Nat) (n : Int), List.Pairwise (fun a b => a < b) l → n ∈ l → n + ltN l n + k ∈ fenF k l
 | [], _, _, _, h => by cases h
 | x :: r, k, n, hp, h => by
  have hr := List.pairwise_cons.1 hp
  show _ ∈ (x + k) :: fenF (k + 1) r
  rw [ltN_cons]
  rcases List.mem_cons.1 h with rfl | h
  ·rw [if_neg (by omega), ltN_none fun a ha => by have := hr.1 a ha; omega]
   rw [show n + ((0 + 0 : Nat) : Int) + (k : Int) = n + k by omega]
   exact List.mem_cons_self ..
  ·rw [if_pos (hr.1 n h)]
   have := mem_fenF r (k + 1) n hr.2 h
   rw [show n + ((ltN r n + 1 : Nat) : Int) + (k : Int) = n + (ltN r n : Int) + ((k + 1 : Nat) : Int) by omega]
   exact List.mem_cons_of_mem _ this
theorem fenF_mem : ∀ (l : List Int) (k : Nat) (f : Int), List.Pairwise (fun a b => a < b) l → f ∈ fenF k l → ∃ n ∈ l, f = n + ltN l n + k
 | [], _, _, _, h => by cases h
 | x :: r, k, f, hp, h => by
  have hr := List.pairwise_cons.1 hp
  rcases List.mem_cons.1 h with rfl | h
  ·refine ⟨x, List.mem_cons_self .., ?_⟩
   rw [ltN_cons, if_neg (by omega), ltN_none fun a ha => by have := hr.1 a ha; omega]
   omega
  ·obtain ⟨n, hn, rfl⟩ := fenF_mem r (k + 1) f hr.2 h
   refine ⟨n, List.mem_cons_of_mem _ hn, ?_⟩
   rw [ltN_cons, if_pos (hr.1 n hn)]; omega
theorem fen_iff {l : List Int} (h : rises l) (f : Int) : f ∈ fenF 0 l ↔ ∃ n : Nat, (n : Int) ∈ l ∧ f = (entN l n : Nat) := by
 constructor
 ·intro hf
  obtain ⟨n, hn, e⟩ := fenF_mem l 0 f h.1 hf
  have h0 := h.2 n hn
  obtain ⟨m, rfl⟩ : ∃ m : Nat, n = m := ⟨n.toNat, by omega⟩
  refine ⟨m, hn, ?_⟩
  rw [e]; unfold entN; rw [← ltN_cut h m]; omega
 ·rintro ⟨n, hn, rfl⟩
  have := mem_fenF l 0 n h.1 hn
  unfold entN
  rw [← ltN_cut h n]
  rw [show ((n + ltN l n : Nat) : Int) = (n : Int) + (ltN l n : Int) + ((0 : Nat) : Int) by omega]
  exact this
theorem entN_mono (l : List Int) {a b : Nat} (h : a < b) : entN l a + 1 + (if (a : Int) ∈ l then 1 else 0) ≤ entN l b := by
 induction b with
 | zero => omega
 | succ b ih =>
  by_cases hb : a = b
  ·subst hb; rw [entN_succ]; omega
  ·have := ih (by omega)
   rw [entN_succ]; omega
theorem entN_inj (l : List Int) {a b : Nat} (h : entN l a = entN l b) : a = b := by
 rcases Nat.lt_trichotomy a b with h1 | h1 | h1
 ·have := entN_mono l h1; omega
 ·exact h1
 ·have := entN_mono l h1; omega
theorem back_ent1 {l : List Int} (h : rises l) {n : Nat} (hn : (n : Int) ∈ l) : backW l ((entN l n : Nat) + 1) = n ∧ ((entN l n : Nat) : Int) + 1 ∉ fenF 0 l := by
 have hnot : ((entN l n : Nat) : Int) + 1 ∉ fenF 0 l := by
  intro hf
  obtain ⟨m, hm, e⟩ := (fen_iff h _).1 hf
  have e : entN l m = entN l n + 1 := by omega
  rcases Nat.lt_trichotomy m n with h1 | rfl | h1
  ·have := entN_mono l h1; omega
  ·omega
  ·have := entN_mono l h1; rw [if_pos hn] at this; omega
 refine ⟨?_, hnot⟩
 have hs : backW l (entN l (n + 1) : Nat) = ((n + 1 : Nat) : Int) := back_ent h (n + 1)
 rw [entN_succ, if_pos hn] at hs
 unfold backW at hs ⊢
 have hp : List.Pairwise (fun a b => a < b) (fenF 0 l) := by
  have key : ∀ (l : List Int) (k : Nat), List.Pairwise (fun a b => a < b) l → List.Pairwise (fun a b => a < b) (fenF k l) := by
   intro l
   induction l with
   | nil => intro k _; exact List.Pairwise.nil
   | cons x r ih =>
    intro k hp
    have hr := List.pairwise_cons.1 hp
    refine List.pairwise_cons.2 ⟨fun f hf => ?_, ih (k + 1) hr.2⟩
    have := fenF_ge r (k + 1) (x + 1) (fun a ha => by have := hr.1 a ha; omega) f hf
    omega
  exact key l 0 h.1
 have := ltN_succ hp (((entN l n : Nat) : Int) + 1)
 rw [if_neg hnot] at this
 rw [show ((entN l n + 1 + 1 : Nat) : Int) = ((entN l n : Nat) : Int) + 1 + 1 by omega, this] at hs
 omega
end Go.Proofs.YtnphhelbianjpaaGreatDoor
namespace Go.Proofs.YtnphhelbianjpaaGreatDoor
set_option maxRecDepth 20000
open Go Go.Proofs.YtnphhelbianjpaaGreatDoor.V Go.Proofs
theorem sh_pick : shapeOf prog 10000 51 = some [.i .i64, .b] := by kernel_rfl
theorem ag_pick : (prog.underlying 51).map aggD = some true := by kernel_rfl
theorem eg_pick : prog.eqGuardType prog.depth 51 = false := by kernel_rfl
section
attribute [local irreducible] TwS TwR thenT inBlockT retT
variable {G : World → Prop}
theorem samePicks_spec (l : List (Int × Bool)) (hl : l.length ≤ 1000000) : Pure prog G 11 [.lst 2 (l.map cPick), .lst 2 (l.map cPick)] (tB true) := by
 have hml : (l.map cPick).length = l.length := lM ..
 refine Pure.at mixedOk F11 rfl fun C hP hG hp => goF ?_; simp only [F11, targEnv, Nat.zero_add, Nat.reduceAdd]
 repeat' (first | refine goR rfl ?_ | refine goS rfl ?_ | refine tret1 rfl ?_ | refine tretN rfl ?_ | refine gY rfl rfl ?_ | refine gN rfl rfl ?_ | refine qT rfl rfl ?_ | refine qF rfl rfl ?_ | ((first | refine gS rfl (fun h => ?_) (fun h => ?_) | refine ts_cond rfl (fun h => ?_) (fun h => ?_)) <;> (try simp only [bs0, beq_iff_eq] at h) <;> try (exfalso; exact h trivial; done)) | fail)
 refine loopS (fun m env σ => ∃ a b, l = a ++ b ∧ m = b.length ∧ env = [(0, .lst 2 (l.map cPick)), (1, .lst 2 (l.map cPick)), (5, tI a.length)] ∧ σ = ⟨[], 0⟩) l.length (w_sub [0, 1, 5] rfl) ⟨[], l, rfl, rfl, rfl, rfl⟩ ?_
 rintro m env σ ⟨a, b, e, rfl, rfl, rfl⟩
 have hla : l.length = a.length + b.length := by rw [e, lA]
 cases b with
 | nil =>
  rw [List.length_nil] at hla
  repeat' (first | refine goR rfl ?_ | refine goS rfl ?_ | refine tret1 rfl ?_ | refine tretN rfl ?_ | refine gY rfl rfl ?_ | refine gN rfl rfl ?_ | refine qT rfl rfl ?_ | refine qF rfl rfl ?_ | refine qF rfl (dF (by omega)) ?_ | fail)
  exact .fr rfl
 | cons x b =>
  have hx : l[a.length]? = some x := by rw [e]; exact ix
  simp only [List.length_cons] at hla
  have hw1 : IntKind.i64.wrap ((a.length : Int) + 1) = ((a ++ [x]).length : Int) := by rw [w64 (by omega), lA]; rfl
  repeat' (first | refine goR rfl ?_ | refine goS rfl ?_ | refine tret1 rfl ?_ | refine tretN rfl ?_ | refine gY rfl rfl ?_ | refine gN rfl rfl ?_ | refine qT rfl rfl ?_ | refine qF rfl rfl ?_ | refine qT rfl (dT (by omega)) ?_ | refine lT (tl_ixm rfl rfl rfl hx) ?_ | refine lT (tl_neT (by rw [hP]; exact sh_pick) (by rw [hP]; exact ag_pick) (by rw [hP]; exact eg_pick) rfl rfl rfl rfl rfl) ?_ | fail)
  refine again (m' := b.length) (Nat.lt_succ_self _) (w_sub [0, 1, 5] rfl) ⟨a ++ [x], b, by rw [e]; simp, rfl, by rw [hw1], rfl⟩
end
end Go.Proofs.YtnphhelbianjpaaGreatDoor
