/-
  Walks of functions of the program, and what the laws need of them.
-/
import Derived.Test.YtjaipefmifbghaaGreatDoorRPG
import Derived.Test.YtjaipefmifbghaaGreatDoorRPH
import Derived.Test.YtjaipefmifbghaaGreatDoorRPI
import Derived.Test.YtjaipefmifbghaaGreatDoorVI
import Derived.Test.YtjaipefmifbghaaGreatDoorRPM
set_option linter.all false
set_option linter.unusedSimpArgs false
set_option linter.unusedVariables false
set_option linter.unnecessarySimpa false
namespace Go.Proofs.YtjaipefmifbghaaGreatDoor
set_option maxRecDepth 20000
open Go Go.Proofs.YtjaipefmifbghaaGreatDoor.V Go.Proofs
def swG (g : Nat → Ins → Ins) : Nat → List Ins → List Ins
 | _, [] => []
 | k, x :: l => g k x :: swG g (k + 1) l
theorem swG_len (g : Nat → Ins → Ins) : ∀ (l : List Ins) (k : Nat), (swG g k l).length = l.length
 | [], _ => rfl
 | x :: l, k => by rw [swG, List.length_cons, swG_len g l, List.length_cons]
theorem swG_get (g : Nat → Ins → Ins) : ∀ (l : List Ins) (k i : Nat), (swG g k l)[i]? = (l[i]?).map (g (k + i))
 | [], k, i => by simp [swG]
 | x :: l, k, 0 => by simp [swG]
 | x :: l, k, i + 1 => by rw [swG, List.getElem?_cons_succ, swG_get g l, List.getElem?_cons_succ, show k + 1 + i = k + (i + 1) by omega]
def upG (g : Nat → Ins → Ins) (J i : Nat) (y : Ins) : Ins := if i < J then g i y else y
def swF (g : Nat → Ins → Ins) (J : Nat) (x : List Ins) : List Ins := swG (upG g J) 0 x
theorem swF_len (g : Nat → Ins → Ins) (J : Nat) (x : List Ins) : (swF g J x).length = x.length := swG_len ..
theorem swF_get (g : Nat → Ins → Ins) (J : Nat) (x : List Ins) (i : Nat) : (swF g J x)[i]? = (x[i]?).map (upG g J i) := by rw [swF, swG_get, Nat.zero_add]
theorem swF_0 (g : Nat → Ins → Ins) (x : List Ins) : swF g 0 x = x := by
 refine List.ext_getElem? fun i => ?_
 rw [swF_get]
 cases x[i]? with
 | none => rfl
 | some y => rfl
theorem swF_at {g : Nat → Ins → Ins} {J : Nat} {x : List Ins} {y : Ins} (h : x[J]? = some y) : (swF g J x)[J]? = some y := by
 rw [swF_get, h]; show some (upG g J J y) = _; rw [upG, if_neg (Nat.lt_irrefl _)]
theorem swF_succ {g : Nat → Ins → Ins} {J : Nat} {x : List Ins} {y : Ins} (h : x[J]? = some y) : swF g (J + 1) x = (swF g J x).set J (g J y) := by
 have hJ := (List.getElem?_eq_some_iff.1 h).1
 refine List.ext_getElem? fun i => ?_
 rw [List.getElem?_set, swF_len, swF_get, swF_get]
 by_cases hi : J = i
 ·subst hi
  rw [if_pos rfl, if_pos hJ, h]
  show some (upG g (J + 1) J y) = _
  rw [upG, if_pos (Nat.lt_succ_self _)]
 ·rw [if_neg hi]
  congr 1
  funext z
  unfold upG
  by_cases h1 : i < J
  ·rw [if_pos h1, if_pos (by omega)]
  ·rw [if_neg h1, if_neg (by omega)]
theorem swF_skip {g : Nat → Ins → Ins} {J : Nat} {x : List Ins} (h : ∀ y, x[J]? = some y → g J y = y) : swF g (J + 1) x = swF g J x := by
 refine List.ext_getElem? fun i => ?_
 rw [swF_get, swF_get]
 cases hx : x[i]? with
 | none => rfl
 | some z =>
  show some (upG g (J + 1) i z) = some (upG g J i z)
  unfold upG
  by_cases h1 : i < J
  ·rw [if_pos h1, if_pos (by omega)]
  ·rw [if_neg h1]
   by_cases h2 : i = J
   ·subst h2; rw [if_pos (Nat.lt_succ_self _), h z hx]
   ·rw [if_neg (by omega)]
theorem swF_ge {g : Nat → Ins → Ins} {J K : Nat} {x : List Ins} (h1 : x.length ≤ J) (h2 : x.length ≤ K) : swF g J x = swF g K x := by
 refine List.ext_getElem? fun i => ?_
 rw [swF_get, swF_get]
 cases hx : x[i]? with
 | none => rfl
 | some z =>
  have := (List.getElem?_eq_some_iff.1 hx).1
  show some (upG g J i z) = some (upG g K i z)
  unfold upG
  rw [if_pos (by omega), if_pos (by omega)]
def swOk (syms : List Sym) (n i : Nat) (y z : Ins) : Prop := z = y ∨ (i + 1 < n ∧ z.labels = y.labels ∧ insStep syms z = 0 ∧ jumpB z = false ∧ z.to.size ≤ 3 ∧ inR z.b.n)
theorem insC_sw (syms : List Sym) (g : Nat → Ins → Ins) : ∀ (l : List Ins) (k : Nat) (seen : List ByteArray), (∀ i y, l[i]? = some y → (g (k + i) y).labels = y.labels ∧ (insStep syms y = 0 → insStep syms (g (k + i) y) = 0)) → (insC syms seen l).1 = 0 → (insC syms seen (swG g k l)).1 = 0
 | [], _, _, _, _ => rfl
 | x :: l, k, seen, h, h0 => by
  obtain ⟨e1, e2⟩ := h 0 x rfl
  rw [Nat.add_zero] at e1 e2
  rw [swG, insC, e1]
  rw [insC] at h0
  split at h0
  ·rename_i h1
   rw [if_pos h1]
   split at h0
   ·rename_i h2
    rw [if_pos (e2 h2)]
    refine insC_sw syms g l (k + 1) _ (fun i y hy => ?_) h0
    have := h (i + 1) y (by rw [List.getElem?_cons_succ]; exact hy)
    rw [show k + 1 + i = k + (i + 1) by omega]
    exact this
   ·contradiction
  ·contradiction
theorem labs_sw (g : Nat → Ins → Ins) : ∀ (l : List Ins) (k : Nat), (∀ i y, l[i]? = some y → (g (k + i) y).labels = y.labels) → allLabs (swG g k l) = allLabs l
 | [], _, _ => rfl
 | x :: l, k, h => by
  have h0 := h 0 x rfl
  rw [Nat.add_zero] at h0
  rw [swG, allLabs, allLabs, List.flatMap_cons, List.flatMap_cons, h0]
  have := labs_sw g l (k + 1) fun i y hy => by
   have := h (i + 1) y (by rw [List.getElem?_cons_succ]; exact hy)
   rw [show k + 1 + i = k + (i + 1) by omega]
   exact this
  rw [allLabs, allLabs] at this
  rw [this]
theorem sw_thread {syms : List Sym} {g : Nat → Ins → Ins} {x : List Ins} (h : ∀ i y, x[i]? = some y → swOk syms x.length i y (g i y)) (hl : x.length ≤ 30) (ht : threadC syms x = 0) (ho : okT x) (hn : ∀ i ∈ x, inR i.b.n) :
  threadC syms (swG g 0 x) = 0 ∧ okT (swG g 0 x) ∧ (∀ i ∈ swG g 0 x, inR i.b.n) ∧ (swG g 0 x).length ≤ 30 := by
 have hlab : ∀ i y, x[i]? = some y → (g (0 + i) y).labels = y.labels := fun i y hy => by
  rw [Nat.zero_add]
  rcases h i y hy with e | e
  ·rw [e]
  ·exact e.2.1
 have hmem : ∀ z ∈ swG g 0 x, ∃ i y, x[i]? = some y ∧ y ∈ x ∧ z = g i y := fun z hz => by
  obtain ⟨i, hi⟩ := List.getElem?_of_mem hz
  rw [swG_get, Nat.zero_add] at hi
  cases hx : x[i]? with
  | none => rw [hx] at hi; cases hi
  | some y => rw [hx] at hi; cases hi; exact ⟨i, y, hx, List.mem_of_getElem? hx, rfl⟩
 have hall := labs_sw g x 0 hlab
 unfold threadC at ht
 have hc1 := countN_le x
 rw [if_neg (by omega)] at ht
 split at ht
 ·rename_i h1
  split at ht
  ·rename_i h2
   split at ht
   ·rename_i h3
    have hins := insC_sw syms g x 0 [] (fun i y hy => ⟨hlab i y hy, fun hs => by
     rw [Nat.zero_add]
     rcases h i y hy with e | e
     ·rw [e]; exact hs
     ·exact e.2.2.1⟩) h1
    refine ⟨?_, ?_, ?_, by rw [swG_len]; exact hl⟩
    ·unfold threadC
     have hc2 := countN_le (swG g 0 x)
     rw [swG_len] at hc2
     rw [if_neg (by omega), if_pos hins]
     have hlast : lastB (swG g 0 x) = true := by
      unfold lastB at h2 ⊢
      rw [List.getLast?_eq_getElem?] at h2 ⊢
      rw [swG_len, swG_get, Nat.zero_add]
      cases hx : x[x.length - 1]? with
      | none => rw [hx] at h2; cases h2
      | some y =>
       have hle := (List.getElem?_eq_some_iff.1 hx).1
       rcases h _ y hx with e | e
       ·rw [hx] at h2
        show (match some (g (x.length - 1) y) with | none => false | some i => decide (i.op = 10) || decide (i.op = 14)) = true
        rw [e]; exact h2
       ·omega
     rw [if_pos hlast, insC_seen _ _ _ hins, List.nil_append, hall, if_pos]
     rw [insC_seen _ _ _ h1, List.nil_append] at h3
     unfold wayB at h3 ⊢
     rw [List.all_eq_true] at h3 ⊢
     intro z hz
     obtain ⟨i, y, hy, hym, rfl⟩ := hmem z hz
     rcases h i y hy with e | e
     ·rw [e]; exact h3 y hym
     ·rw [e.2.2.2.1]; rfl
    ·obtain ⟨⟨o1, o2⟩, o3⟩ := ho
     refine ⟨⟨by rw [swG_len]; exact o1, by rw [hall]; exact o2⟩, fun z hz => ?_⟩
     obtain ⟨i, y, hy, hym, rfl⟩ := hmem z hz
     have := o3 y hym
     rcases h i y hy with e | e
     ·rw [e]; exact this
     ·rw [e.2.1]; exact ⟨by have := e.2.2.2.2.1; omega, this.2⟩
    ·intro z hz
     obtain ⟨i, y, hy, hym, rfl⟩ := hmem z hz
     rcases h i y hy with e | e
     ·rw [e]; exact hn y hym
     ·exact e.2.2.2.2.2
   ·exact absurd ht (by decide)
  ·exact absurd ht (by decide)
 ·contradiction
theorem sw_prog {T : List (List Ins)} (h3 : T.length ≤ 3) (h : ∀ x ∈ T, threadC syms3 x = 0 ∧ okT x ∧ (∀ i ∈ x, inR i.b.n) ∧ x.length ≤ 30) : okP ⟨syms3, T⟩ ∧ checkC ⟨syms3, T⟩ = 0 ∧ numsOk ⟨syms3, T⟩ ∧ stQ ⟨syms3, T⟩ (start0 ⟨syms3, T⟩) := by
 have hths : ∀ (r : List (List Ins)), (∀ x ∈ r, threadC syms3 x = 0) → thsC syms3 r = 0 := by
  intro r
  induction r with
  | nil => intro _; rfl
  | cons x r ih => intro hr; rw [thsC, if_pos (hr x (List.mem_cons_self ..)), ih fun y hy => hr y (List.mem_cons_of_mem _ hy)]
 refine ⟨⟨show 3 ≤ 1000000000 by decide, ?_, by show T.length ≤ _; omega, fun t ht => (h t ht).2.1⟩, ?_, fun t ht => (h t ht).2.2.1, start_q ?_⟩
 ·intro s hs
  have : s ∈ syms3 := hs
  simp only [syms3, List.mem_cons, List.not_mem_nil, or_false] at this
  rcases this with rfl | rfl | rfl <;> decide
 ·unfold checkC
  rw [if_neg (by intro h; rcases h with h | h; exact absurd h (show ¬ 64 < 3 by decide); have : 64 < T.length := h; omega), if_pos syms3_ok]
  exact hths _ fun x hx => (h x hx).1
 ·intro v hv
  have hv : v ∈ [(0 : Int), 1, 0, 0] := hv
  have : v = 0 ∨ v = 1 ∨ v = 0 := by simpa using hv
  rcases this with rfl | rfl | rfl <;> (unfold inR; decide)
theorem th_ok (l : List (List Act)) (hl : ∀ r ∈ l, ∀ a ∈ r, inR a.n) : ∀ x ∈ (l.take 3).map (thO 8), threadC syms3 x = 0 ∧ okT x ∧ (∀ i ∈ x, inR i.b.n) ∧ x.length ≤ 30 := by
 intro x hx
 have hn := prog_nums hl 3 8 x hx
 obtain ⟨r, _, rfl⟩ := List.mem_map.1 hx
 obtain ⟨h1, h2, h3⟩ := th_check 8 (by decide) r
 exact ⟨h1, h2, hn, h3⟩
end Go.Proofs.YtjaipefmifbghaaGreatDoor
namespace Go.Proofs.YtjaipefmifbghaaGreatDoor
set_option maxRecDepth 20000
open Go Go.Proofs.YtjaipefmifbghaaGreatDoor.V Go.Proofs
def thsP : Nat → List (List Ins) → List TV
 | _, [] => []
 | k, x :: r => .s k 13 0 x.length true :: thsP (k + 1) r
def thsR (k : Nat) : List (List Ins) → TObj
 | [] => .rows 1 [] 50
 | x :: r => .cells (thsP k (x :: r)) 50
def thsO : Nat → List (List Ins) → List (Nat × TObj)
 | _, [] => []
 | k, x :: r => (k, .rows 13 (x.map cIns) 55) :: thsO (k + 1) r
def Mk (_ : List (List Ins)) : Prop := True
def invT0 (l : List (List Act)) (m : Nat) (env : TEnv) (σ : TS) : Prop := ∃ (a b : List (List Act)) (A : List (List Ins)) (al : Nat), l.take 3 = a ++ b ∧ A = a.map (thO 8) ∧ al = a.length ∧ m = b.length ∧ env = [(0, .lst 1 (l.map fun r => [.lst 5 (r.map cAct)])), (1, tI 3), (2, tI 8), (6, .p 0 0), (7, .p 1 0), (8, tI (al : Nat))] ∧ σ = ⟨[(0, .cells [.v (.slice none 0 0), .v (.slice none 0 0)] 27), (1, .cells [.lst 3 (syms3.map cSym), .s 2 1 0 A.length true] 27), (2, thsR 3 A)] ++ thsO 3 A, 20⟩
def invT1 {A : List (List Ins)} (_ : Mk A) (l : List (List Act)) (r : List Act) (al n : Nat) (m : Nat) (env : TEnv) (σ : TS) : Prop := ∃ i : Nat, i ≤ n ∧ m = n - i ∧ env = [(0, .lst 1 (l.map fun r => [.lst 5 (r.map cAct)])), (1, tI 3), (2, tI 8), (6, .p 0 0), (7, .p 1 0), (8, tI (al : Nat)), (9, tI n), (10, .p (3 + A.length) 0), (11, tI i)] ∧ σ = ⟨[(0, .cells [.v (.slice none 0 0), .v (.slice none 0 0)] 27), (1, .cells [.lst 3 (syms3.map cSym), .s 2 1 0 A.length true] 27), (2, thsR 3 A)] ++ (thsO 3 A ++ [(3 + A.length, .cells [.s (4 + A.length) 13 0 i true] 50), (4 + A.length, .rows 13 (((r.take i).map fun a => insO a (n + 1)).map cIns) 55)]), 20⟩
def invT2 {A : List (List Ins)} (_ : Mk A) (l : List (List Act)) (r : List Act) (al i : Nat) (m : Nat) (env : TEnv) (σ : TS) : Prop := ∃ j : Nat, j ≤ i ∧ m = i - j ∧ env = [(0, .lst 1 (l.map fun r => [.lst 5 (r.map cAct)])), (1, tI 3), (2, tI 8), (6, .p 0 0), (7, .p 1 0), (8, tI (al : Nat)), (9, tI i), (10, .p (3 + A.length) 0), (12, tI j)] ∧ σ = ⟨[(0, .cells [.v (.slice none 0 0), .v (.slice none 0 0)] 27), (1, .cells [.lst 3 (syms3.map cSym), .s 2 1 0 A.length true] 27), (2, thsR 3 A)] ++ (thsO 3 A ++ [(3 + A.length, .cells [.s (4 + A.length) 13 0 (i + 1) true] 50), (4 + A.length, .rows 13 ((labS (tgtB ((rawO i r).take j)) (baseO i r)).map cIns) 55)]), 20⟩
def invT3 {A : List (List Ins)} (_ : Mk A) (l : List (List Act)) (r : List Act) (al i j : Nat) (z : Ins) (m : Nat) (env : TEnv) (σ : TS) : Prop := ∃ k : Nat, k ≤ i + 1 ∧ m = i + 1 - k ∧ env = [(0, .lst 1 (l.map fun r => [.lst 5 (r.map cAct)])), (1, tI 3), (2, tI 8), (6, .p 0 0), (7, .p 1 0), (8, tI (al : Nat)), (9, tI i), (10, .p (3 + A.length) 0), (12, tI j), (13, tI k)] ∧ σ = ⟨[(0, .cells [.v (.slice none 0 0), .v (.slice none 0 0)] 27), (1, .cells [.lst 3 (syms3.map cSym), .s 2 1 0 A.length true] 27), (2, thsR 3 A)] ++ (thsO 3 A ++ [(3 + A.length, .cells [.s (4 + A.length) 13 0 (i + 1) true] 50), (4 + A.length, .rows 13 ((labS (fun q => tgtB ((rawO i r).take j) q || (decide (q < k) && decide (labO q = z.to))) (baseO i r)).map cIns) 55)]), 20⟩
section
attribute [local irreducible] TwS TwR thenT inBlockT retT regO plnO memO labO insO
variable {G : World → Prop}
set_option maxHeartbeats 20000000 in
theorem progM_own (l : List (List Act)) : TC prog G 8 [cActs l, tI 3, tI 8] ⟨[], 0⟩ [] (fun v σ' => v = .agg [.lst 3 (syms3.map cSym), .s 0 1 0 ((l.take 3).map (thO 8)).length true] ∧ σ' = ⟨(0, thsR 1 ((l.take 3).map (thO 8))) :: thsO 1 ((l.take 3).map (thO 8)), 20⟩) := by
 refine TC.at mixedOk F8 rfl fun C hP hG hp => goF ?_; simp only [F8, targEnv, Nat.zero_add, Nat.reduceAdd]
 refine ts_bound (t := 0) rfl fun hlb => ?_
 rw [lM] at hlb
 repeat' (first | refine goR rfl ?_ | refine goS rfl ?_ | refine tret1 rfl ?_ | refine tretN rfl ?_ | refine gY rfl rfl ?_ | refine gN rfl rfl ?_ | refine qT rfl rfl ?_ | refine qF rfl rfl ?_ | fail)
 refine tr_weak ((w_freeze (d := 16) (k := 1) rfl rfl (.aggL (.cons (.refl _) (.cons (.refl _) (.cons (.s 1 true rfl) .nil))))).trans (w_freeze (d := 18) (k := 2) rfl rfl (.aggL (.cons (.refl _) (.cons (.refl _) (.cons (.s 1 true rfl) .nil)))))) ?_
 repeat' (first | refine goR rfl ?_ | refine goS rfl ?_ | refine tret1 rfl ?_ | refine tretN rfl ?_ | refine gY rfl rfl ?_ | refine gN rfl rfl ?_ | refine qT rfl rfl ?_ | refine qF rfl rfl ?_ | fail)
 refine loopS (invT0 l) (l.take 3).length ((w_rowsA (k := 3) (ys := syms3.map cSym) rfl (by rfl) (by intro h; cases h) (by decide) ?_).trans ((w_freezeC (j := 4) (i := 0) (k := 3) rfl rfl rfl (by decide) (.s _ _ rfl)).trans ((w_virtC (j := 4) (i := 1) 1 50 rfl rfl).trans (w_canon 20 [] [0, 1, 2, 6, 7, 8] hp rfl rfl rfl rfl)))) ⟨[], l.take 3, [], 0, rfl, rfl, rfl, rfl, rfl, rfl⟩ ?_
 ·exact .cons (.refl _) (.cons (.refl _) (.cons (.nil 1) (.refl _)))
 rintro m env σ ⟨a, b, A, al, e, hA, hal, rfl, rfl, rfl⟩
 have hla : min 3 l.length = al + b.length := by rw [← List.length_take, e, lA, hal]
 have hlm : (l.map fun r => [TV.lst 5 (r.map cAct)]).length = l.length := lM ..
 have hAl : A.length = al := by rw [hA, lM, hal]
 cases b with
 | nil =>
  rw [List.length_nil] at hla
  rw [List.append_nil] at e
  rw [e, ← hA]
  have hA3 : A.length ≤ 3 := by omega
  clear hA
  rcases rows3 hA3 with rfl | ⟨_, rfl⟩ | ⟨_, _, rfl⟩ | ⟨_, _, _, rfl⟩
  all_goals
   simp only [List.length_cons, List.length_nil] at hAl
   repeat' (first | refine goR rfl ?_ | refine goS rfl ?_ | refine tret1 rfl ?_ | refine tretN rfl ?_ | refine gY rfl rfl ?_ | refine gN rfl rfl ?_ | refine qT rfl rfl ?_ | refine qF rfl rfl ?_ | ((first | refine gS rfl (fun h => ?_) (fun h => ?_) | refine ts_cond rfl (fun h => ?_) (fun h => ?_)) <;> (try simp only [bs0, beq_iff_eq] at h) <;> try (exfalso; omega; done)) | fail)
   all_goals exact tretX 20 [] rfl hp rfl rfl rfl rfl ⟨rfl, rfl⟩
 | cons r b =>
  simp only [List.length_cons] at hla
  have hx : l[al]? = some r := by
   have : (l.take 3)[al]? = some r := by rw [e, hal]; exact ix
   rw [List.getElem?_take] at this
   split at this
   ·exact this
   ·cases this
  obtain ⟨n, hn⟩ : ∃ n, n = min r.length 8 := ⟨_, rfl⟩
  have hrl : (r.map cAct).length = r.length := lM ..
  have hraw : (rawO n r).length = n := by unfold rawO; rw [lM, List.length_take]; omega
  have hbl : (baseO n r).length = n + 1 := by unfold baseO; rw [lA, hraw]; rfl
  have htho : thO 8 r = labS (tgtB (rawO n r)) (baseO n r) := by rw [thO, ← hn]
  have htl : (thO 8 r).length = n + 1 := by rw [htho, labS_len, hbl]
  have hAs : (a ++ [r]).map (thO 8) = A ++ [thO 8 r] := by rw [List.map_append, ← hA]; rfl
  have hw1 : IntKind.i64.wrap ((al : Int) + 1) = ((al + 1 : Nat) : Int) := by rw [w64 (by omega)]; rfl
  have hmn : (if ((r.map cAct).length : Int) < 8 then ((r.map cAct).length : Int) else 8) = (n : Int) := by split <;> omega
  have hmn' : (if (8 : Int) < ((r.map cAct).length : Int) then 8 else ((r.map cAct).length : Int)) = (n : Int) := by split <;> omega
  have hA3 : A = [] ∨ (∃ x, A = [x]) ∨ ∃ x y, A = [x, y] := by
   rcases rows3 (show A.length ≤ 3 by omega) with h | ⟨x, h⟩ | ⟨x, y, h⟩ | ⟨x, y, z, h⟩
   ·exact .inl h
   ·exact .inr (.inl ⟨x, h⟩)
   ·exact .inr (.inr ⟨x, y, h⟩)
   ·rw [h] at hAl; simp at hAl; omega
  clear hA
  have hM : Mk A := trivial
  rcases hA3 with rfl | ⟨x0, rfl⟩ | ⟨x0, x1, rfl⟩
  all_goals
   simp only [List.length_cons, List.length_nil] at hAl
   repeat' (first | refine goR rfl ?_ | refine goS rfl ?_ | refine tret1 rfl ?_ | refine tretN rfl ?_ | refine gY rfl rfl ?_ | refine gN rfl rfl ?_ | refine qT rfl rfl ?_ | refine qF rfl rfl ?_ | refine lT (tl_ixm rfl rfl rfl hx) ?_ | ((first | refine gS rfl (fun h => ?_) (fun h => ?_) | refine ts_cond rfl (fun h => ?_) (fun h => ?_)) <;> (try simp only [bs0, beq_iff_eq] at h) <;> try (exfalso; omega; done)) | fail)
   rw [hmn']
   refine loopS (invT1 hM l r al n) n ((w_virtC (j := 20) (i := 0) 13 55 rfl rfl).trans (w_canon 20 [] [0, 1, 2, 6, 7, 8, 9, 10, 11] hp rfl rfl rfl rfl)) ⟨0, by omega, rfl, rfl, rfl⟩ ?_
   rintro m env σ ⟨i, hi, rfl, rfl, rfl⟩
   by_cases hlt : i < n
   ·have hy : r[i]? = some r[i] := List.getElem?_eq_getElem (by omega)
    have htk : r.take (i + 1) = r.take i ++ [r[i]] := by rw [List.take_add_one, hy]; rfl
    generalize r[i] = act at hy htk
    have cI : ∀ G, Pure prog G 30 [.agg (cAct act), .v (.int .i64 (IntKind.i64.wrap ((n : Int) + 1)))] (.agg (cIns (insO act (n + 1)))) := fun G => by
     rw [w64 (by omega)]; exact insO_spec act n (by omega)
    have hil : (r.take i).length = i := by rw [List.length_take]; omega
    have hwi : IntKind.i64.wrap ((i : Int) + 1) = ((i + 1 : Nat) : Int) := by rw [w64 (by omega)]; rfl
    repeat' (first | refine goR rfl ?_ | refine goS rfl ?_ | refine tret1 rfl ?_ | refine tretN rfl ?_ | refine gY rfl rfl ?_ | refine gN rfl rfl ?_ | refine qT rfl rfl ?_ | refine qF rfl rfl ?_ | refine qT rfl (dT (by omega)) ?_ | refine lT (tl_ixm rfl rfl rfl hx) ?_ | refine lT (tl_ixm rfl rfl rfl hy) ?_ | refine cA rfl (by rw [hP]; exact cI _) rfl ?_ | refine tr_append rfl rfl (by rw [lM, lM, hil]) (.inr (.inr ⟨_, _, _, _, rfl, rfl, rfl⟩)) (by simp only [List.length_cons, List.length_nil]; omega) rfl ?_ | fail)
    refine again (m' := n - (i + 1)) (by omega) (w_canon 20 [] [0, 1, 2, 6, 7, 8, 9, 10, 11] hp rfl rfl rfl rfl) ⟨i + 1, by omega, rfl, by rw [hwi]; rfl, ?_⟩
    rw [htk, List.map_append, List.map_append]; rfl
   ·have hin : i = n := by omega
    subst hin
    have hil : (r.take i).length = i := by rw [List.length_take]; omega
    repeat' (first | refine goR rfl ?_ | refine goS rfl ?_ | refine tret1 rfl ?_ | refine tretN rfl ?_ | refine gY rfl rfl ?_ | refine gN rfl rfl ?_ | refine qT rfl rfl ?_ | refine qF rfl rfl ?_ | refine qF rfl (dF (by omega)) ?_ | refine tr_append rfl rfl (by rw [lM, lM, hil]) (.inr (.inr ⟨_, _, _, _, rfl, rfl, rfl⟩)) (by simp only [List.length_cons, List.length_nil]; omega) rfl ?_ | fail)
    refine loopS (invT2 hM l r al i) i ((w_rowsN (k := 21) (r' := cIns hltI) rfl ?_).trans (w_canon 20 [] [0, 1, 2, 6, 7, 8, 9, 10, 12] hp rfl rfl rfl rfl)) ⟨0, by omega, rfl, rfl, ?_⟩ ?_
    ·exact .cons (.refl _) (.cons (.refl _) (.cons (.refl _) (.cons (.refl _) (.cons (.refl _) (.cons (.refl _) (.cons (.refl _) (.cons (.refl _) (.cons (.refl _) (.cons (.refl _) (.cons (.refl _) (.cons (.refl _) (.cons (.nil 1) .nil))))))))))))
    ·rw [List.take_zero, show tgtB [] = fun _ => false from rfl, labS_none, baseO, List.map_append]; rfl
    rintro m env σ ⟨j, hj, rfl, rfl, rfl⟩
    by_cases hjl : j < i
    ·have hz : (rawO i r)[j]? = some (rawO i r)[j] := List.getElem?_eq_getElem (by omega)
     have hzb : (baseO i r)[j]? = some (rawO i r)[j] := by unfold baseO; rw [List.getElem?_append_left (by omega)]; exact hz
     have htg := tgtB_take hz
     have hwj : IntKind.i64.wrap ((j : Int) + 1) = ((j + 1 : Nat) : Int) := by rw [w64 (by omega)]; rfl
     generalize (rawO i r)[j] = z at hz hzb htg
     have hget : ((labS (tgtB ((rawO i r).take j)) (baseO i r)).map cIns)[j]? = some (cIns (labI (tgtB ((rawO i r).take j) j) j z)) := by rw [List.getElem?_map, labS_get, hzb]; rfl
     have hto : cutT false 1 11 (cIns (labI (tgtB ((rawO i r).take j) j) j z)) = some (tS z.to) := by
      show some (tS (labI (tgtB ((rawO i r).take j) j) j z).to) = _
      rw [labI_to]
     repeat' (first | refine goR rfl ?_ | refine goS rfl ?_ | refine tret1 rfl ?_ | refine tretN rfl ?_ | refine gY rfl rfl ?_ | refine gN rfl rfl ?_ | refine qT rfl rfl ?_ | refine qF rfl rfl ?_ | refine qT rfl (dT (by omega)) ?_ | refine lT (tl_ixo (m := j) rfl rfl rfl (by omega)) ?_ | refine lT (tl_ldE rfl rfl hget hto) ?_ | fail)
     refine ts_cond rfl (fun h => ?_) (fun h => ?_)
     ·have hze : z.to = bs [] := of_decide_eq_true h
      have hq : labS (tgtB ((rawO i r).take (j + 1))) (baseO i r) = labS (tgtB ((rawO i r).take j)) (baseO i r) := labS_ext fun k _ => by
       rw [htg, hze, dF (labO_ne k), Bool.or_false]
      repeat' (first | refine goR rfl ?_ | refine goS rfl ?_ | refine tret1 rfl ?_ | refine tretN rfl ?_ | refine gY rfl rfl ?_ | refine gN rfl rfl ?_ | refine qT rfl rfl ?_ | refine qF rfl rfl ?_ | fail)
      refine again (m' := i - (j + 1)) (by omega) (w_canon 20 [] [0, 1, 2, 6, 7, 8, 9, 10, 12] hp rfl rfl rfl rfl) ⟨j + 1, by omega, rfl, by rw [hwj]; rfl, by rw [hq]; rfl⟩
     ·repeat' (first | refine goR rfl ?_ | refine goS rfl ?_ | refine tret1 rfl ?_ | refine tretN rfl ?_ | refine gY rfl rfl ?_ | refine gN rfl rfl ?_ | refine qT rfl rfl ?_ | refine qF rfl rfl ?_ | fail)
      have hq0 : labS (fun q => tgtB ((rawO i r).take j) q || (decide (q < 0) && decide (labO q = z.to))) (baseO i r) = labS (tgtB ((rawO i r).take j)) (baseO i r) := labS_ext fun q _ => by
       rw [dF (by omega), Bool.false_and, Bool.or_false]
      refine loopS (invT3 hM l r al i j z) (i + 1) (w_canon 20 [] [0, 1, 2, 6, 7, 8, 9, 10, 12, 13] hp rfl rfl rfl rfl) ⟨0, by omega, rfl, rfl, by rw [hq0]; rfl⟩ ?_
      rintro m env σ ⟨k, hk, rfl, rfl, rfl⟩
      obtain ⟨f, hf⟩ : ∃ f : Nat → Bool, f = fun q => tgtB ((rawO i r).take j) q || (decide (q < k) && decide (labO q = z.to)) := ⟨_, rfl⟩
      rw [← hf]
      have hgj : ((labS f (baseO i r)).map cIns)[j]? = some (cIns (labI (f j) j z)) := by rw [List.getElem?_map, labS_get, hzb]; rfl
      have htj : cutT false 1 11 (cIns (labI (f j) j z)) = some (tS z.to) := by
       show some (tS (labI (f j) j z).to) = _
       rw [labI_to]
      by_cases hkl : k ≤ i
      ·have hy : (baseO i r)[k]? = some (baseO i r)[k] := List.getElem?_eq_getElem (by omega)
       have hyl := raw_labs (List.getElem_mem (show k < (baseO i r).length by omega))
       have hwk : IntKind.i64.wrap ((k : Int) + 1) = ((k + 1 : Nat) : Int) := by rw [w64 (by omega)]; rfl
       generalize (baseO i r)[k] = y at hy hyl
       have hfk : f k = tgtB ((rawO i r).take j) k := by rw [hf]; simp
       have hgk : ((labS f (baseO i r)).map cIns)[k]? = some (cIns (labI (f k) k y)) := by rw [List.getElem?_map, labS_get, hy]; rfl
       have hlab : ∀ G, Pure prog G 31 [tI k] (tS (labO k)) := fun G => lab_spec k (by omega)
       have hnext : ∀ q, (tgtB ((rawO i r).take j) q || (decide (q < k + 1) && decide (labO q = z.to))) = if q = k then (f k || decide (labO k = z.to)) else f q := by
        intro q
        by_cases hq : q = k
        ·subst hq; rw [if_pos rfl, hfk, dT (by omega)]; rfl
        ·rw [if_neg hq, hf]
         rw [show decide (q < k + 1) = decide (q < k) from decide_eq_decide.2 (by omega)]
       have hsame : (f k || decide (labO k = z.to)) = f k → labS (fun q => tgtB ((rawO i r).take j) q || (decide (q < k + 1) && decide (labO q = z.to))) (baseO i r) = labS f (baseO i r) := by
        intro hh
        refine labS_ext fun q _ => ?_
        rw [hnext]
        split
        ·rename_i hq; rw [hq, hh]
        ·rfl
       by_cases hm : labO k = z.to
       ·cases hfb : f k with
        | true =>
         have hgk2 : ((labS f (baseO i r)).map cIns)[k]? = some (cIns { y with labels := [labO k] }) := by rw [hgk, hfb]; rfl
         repeat' (first | refine goR rfl ?_ | refine goS rfl ?_ | refine tret1 rfl ?_ | refine tretN rfl ?_ | refine gY rfl rfl ?_ | refine gN rfl rfl ?_ | refine qT rfl rfl ?_ | refine qF rfl rfl ?_ | refine lT (tl_ixo (m := j) rfl rfl rfl (by omega)) ?_ | refine lT (tl_ldE rfl rfl hgj htj) ?_ | refine cA rfl (by rw [hP]; exact hlab _) rfl ?_ | refine lT (tl_ixo (m := k) rfl rfl rfl (by omega)) ?_ | refine lT (tl_ldE rfl rfl hgk2 rfl) ?_ | ((first | refine gS rfl (fun h => ?_) (fun h => ?_) | refine ts_cond rfl (fun h => ?_) (fun h => ?_)) <;> (try simp only [bs0, beq_iff_eq] at h) <;> try (exfalso; first | omega | exact h hm | (simp at h; done); done)) | fail)
         refine again (m' := i + 1 - (k + 1)) (by omega) (w_canon 20 [] [0, 1, 2, 6, 7, 8, 9, 10, 12, 13] hp rfl rfl rfl rfl) ⟨k + 1, by omega, rfl, by rw [hwk]; rfl, by rw [hsame (by rw [hfb]; rfl)]; rfl⟩
        | false =>
         have hgk2 : ((labS f (baseO i r)).map cIns)[k]? = some (cIns y) := by rw [hgk, hfb]; rfl
         repeat' (first | refine goR rfl ?_ | refine goS rfl ?_ | refine tret1 rfl ?_ | refine tretN rfl ?_ | refine gY rfl rfl ?_ | refine gN rfl rfl ?_ | refine qT rfl rfl ?_ | refine qF rfl rfl ?_ | refine lT (tl_ixo (m := j) rfl rfl rfl (by omega)) ?_ | refine lT (tl_ldE rfl rfl hgj htj) ?_ | refine cA rfl (by rw [hP]; exact hlab _) rfl ?_ | refine lT (tl_ixo (m := k) rfl rfl rfl (by omega)) ?_ | refine lT (tl_ldE rfl rfl hgk2 rfl) ?_ | refine tr_weak (w_freeze (d := 106) (k := 20) rfl rfl (.s _ _ rfl)) (tr_storeE rfl rfl hgk2 rfl rfl rfl rfl rfl rfl ?_) | ((first | refine gS rfl (fun h => ?_) (fun h => ?_) | refine ts_cond rfl (fun h => ?_) (fun h => ?_)) <;> (try simp only [bs0, beq_iff_eq] at h) <;> try (exfalso; first | omega | exact h hm | (apply h; rw [hyl]; rfl); done)) | fail)
         have h1 := labS_set f (fun q => tgtB ((rawO i r).take j) q || (decide (q < k + 1) && decide (labO q = z.to))) (baseO i r) k y hy (fun q => by
          rw [hnext, hfb, dT hm]; rfl)
         refine again (m' := i + 1 - (k + 1)) (by omega) (w_canon 20 [] [0, 1, 2, 6, 7, 8, 9, 10, 12, 13] hp rfl rfl rfl rfl) ⟨k + 1, by omega, rfl, by rw [hwk]; rfl, by rw [← h1, List.map_set]; rfl⟩
       ·have hgk2 := hgk
        repeat' (first | refine goR rfl ?_ | refine goS rfl ?_ | refine tret1 rfl ?_ | refine tretN rfl ?_ | refine gY rfl rfl ?_ | refine gN rfl rfl ?_ | refine qT rfl rfl ?_ | refine qF rfl rfl ?_ | refine lT (tl_ixo (m := j) rfl rfl rfl (by omega)) ?_ | refine lT (tl_ldE rfl rfl hgj htj) ?_ | refine cA rfl (by rw [hP]; exact hlab _) rfl ?_ | refine lT (tl_ixo (m := k) rfl rfl rfl (by omega)) ?_ | refine lT (tl_ldE rfl rfl hgk2 rfl) ?_ | ((first | refine gS rfl (fun h => ?_) (fun h => ?_) | refine ts_cond rfl (fun h => ?_) (fun h => ?_)) <;> (try simp only [bs0, beq_iff_eq] at h) <;> try (exfalso; first | omega | exact hm h; done)) | fail)
        refine again (m' := i + 1 - (k + 1)) (by omega) (w_canon 20 [] [0, 1, 2, 6, 7, 8, 9, 10, 12, 13] hp rfl rfl rfl rfl) ⟨k + 1, by omega, rfl, by rw [hwk]; rfl, by rw [hsame (by rw [dF hm, Bool.or_false])]; rfl⟩
      ·have hke : k = i + 1 := by omega
       have hq1 : labS (tgtB ((rawO i r).take (j + 1))) (baseO i r) = labS f (baseO i r) := labS_ext fun q hq => by
        rw [htg, hf]
        simp only [dT (show q < k by omega), Bool.true_and]
       repeat' (first | refine goR rfl ?_ | refine goS rfl ?_ | refine tret1 rfl ?_ | refine tretN rfl ?_ | refine gY rfl rfl ?_ | refine gN rfl rfl ?_ | refine qT rfl rfl ?_ | refine qF rfl rfl ?_ | refine qF rfl (dF (by omega)) ?_ | fail)
       refine again (m' := i - (j + 1)) (by omega) (w_canon 20 [] [0, 1, 2, 6, 7, 8, 9, 10, 12] hp rfl rfl rfl rfl) ⟨j + 1, by omega, rfl, by rw [hwj]; rfl, by rw [hq1]; rfl⟩
    ·have hji : j = i := by omega
     subst hji
     have hfull : (rawO j r).take j = rawO j r := List.take_of_length_le (by omega)
     rw [hfull, ← htho, ← htl]
     repeat' (first | refine goR rfl ?_ | refine goS rfl ?_ | refine tret1 rfl ?_ | refine tretN rfl ?_ | refine gY rfl rfl ?_ | refine gN rfl rfl ?_ | refine qT rfl rfl ?_ | refine qF rfl rfl ?_ | refine qF rfl (dF (by omega)) ?_ | refine tr_rowC rfl rfl rfl ?_ | refine tr_appendN rfl rfl rfl rfl (by decide) rfl (by decide) rfl ?_ | refine tr_appendC rfl rfl rfl rfl rfl (by decide) rfl ⟨Nat.le_of_ble_eq_true rfl, Nat.le_of_ble_eq_true rfl⟩ rfl ?_ | fail)
     refine again (m' := b.length) (Nat.lt_succ_self _) (w_canon 20 [] [0, 1, 2, 6, 7, 8] hp rfl rfl rfl rfl) ⟨a ++ [r], b, _, al + 1, by rw [e]; simp, hAs.symm, by rw [lA, ← hal, List.length_singleton], rfl, by rw [hw1], rfl⟩
end
end Go.Proofs.YtjaipefmifbghaaGreatDoor
namespace Go.Proofs.YtjaipefmifbghaaGreatDoor
set_option maxRecDepth 20000
open Go Go.Proofs.YtjaipefmifbghaaGreatDoor.V Go.Proofs
theorem rowsH {α β : Type} {l : List α} {l' : List β} (h : l.length ≤ 3) (e : l'.length = l.length) : (l = [] ∧ l' = []) ∨ (∃ a a', l = [a] ∧ l' = [a']) ∨ (∃ a b a' b', l = [a, b] ∧ l' = [a', b']) ∨ ∃ a b c a' b' c', l = [a, b, c] ∧ l' = [a', b', c'] := by
 rcases rows3 h with rfl | ⟨a, rfl⟩ | ⟨a, b, rfl⟩ | ⟨a, b, c, rfl⟩ <;> rcases rows3 (l := l') (by rw [e]; exact h) with rfl | ⟨a', rfl⟩ | ⟨a', b', rfl⟩ | ⟨a', b', c', rfl⟩ <;> first
  | (simp at e; done)
  | exact .inl ⟨rfl, rfl⟩
  | exact .inr (.inl ⟨_, _, rfl, rfl⟩)
  | exact .inr (.inr (.inl ⟨_, _, _, _, rfl, rfl⟩))
  | exact .inr (.inr (.inr ⟨_, _, _, _, _, _, rfl, rfl⟩))
def swU (g : Nat → Nat → Nat → Ins → Ins) (t : Nat) : Nat → List (List Ins) → List (List Ins)
 | _, [] => []
 | k, x :: r => (bif Nat.blt k t then swF (g k x.length) x.length x else x) :: swU g t (k + 1) r
theorem swU_mem {g : Nat → Nat → Nat → Ins → Ins} : ∀ (T : List (List Ins)) (k : Nat) (t : Nat), k + T.length ≤ t → ∀ z ∈ swU g t k T, ∃ j x, x ∈ T ∧ j < k + T.length ∧ z = swF (g j x.length) x.length x
 | [], _, _, _, z, hz => by cases hz
 | x :: r, k, t, h, z, hz => by
  rw [List.length_cons] at h
  rw [swU] at hz
  rcases List.mem_cons.1 hz with rfl | hz
  ·refine ⟨k, x, List.mem_cons_self .., by rw [List.length_cons]; omega, ?_⟩
   have : Nat.blt k t = true := by rw [Nat.blt_eq]; omega
   rw [this]; rfl
  ·obtain ⟨j, y, h1, h2, h3⟩ := swU_mem r (k + 1) t (by omega) z hz
   exact ⟨j, y, List.mem_cons_of_mem _ h1, by rw [List.length_cons]; omega, h3⟩
theorem swU_len (g : Nat → Nat → Nat → Ins → Ins) (t : Nat) : ∀ (T : List (List Ins)) (k : Nat), (swU g t k T).length = T.length
 | [], _ => rfl
 | x :: r, k => by rw [swU, List.length_cons, swU_len g t r, List.length_cons]
def prM (T X : List (List Ins)) : List (Nat × TObj) := (0, .cells [.lst 3 (syms3.map cSym), .s 1 1 0 T.length true] 27) :: (1, thsR 2 T) :: thsO 2 X
theorem w_prg {C : Cx} {env : TEnv} {n : Nat} (T X : List (List Ins)) (h3 : T.length ≤ 3) (h : T.map List.length = X.map List.length) : Weak C env ⟨prM T X, n⟩ env ⟨[(0, .cells (cPrg ⟨syms3, X⟩) 27)], n⟩ := by
 have hl : X.length = T.length := by have := congrArg List.length h; simpa using this.symm
 rcases rows3 h3 with rfl | ⟨x, rfl⟩ | ⟨x, y, rfl⟩ | ⟨x, y, z, rfl⟩
 ·obtain rfl : X = [] := List.length_eq_zero_iff.1 hl
  refine (w_freezeC (j := 0) (i := 1) (k := 1) rfl rfl rfl (by decide) (.s 0 true rfl)).trans ?_
  exact Weak.refl _ _
 ·match X, hl, h with
  | [x'], _, h =>
   simp only [List.map_cons, List.map_nil, List.cons.injEq, and_true] at h
   refine (w_freezeC (j := 1) (i := 0) (k := 2) rfl rfl rfl (by decide) (.s _ true (by rw [lM]; exact h))).trans ?_
   refine (w_rowsC (k := 1) (sz := 1) [[.lst 13 (x'.map cIns)]] rfl rfl rfl (by intro a ha; simp only [List.mem_cons, List.not_mem_nil, or_false] at ha; rcases ha with rfl <;> rfl) (by show 1 < _; decide)).trans ?_
   refine (w_freezeC (j := 0) (i := 1) (k := 1) rfl rfl rfl (by decide) (.s 1 true rfl)).trans ?_
   exact Weak.refl _ _
 ·match X, hl, h with
  | [x', y'], _, h =>
   simp only [List.map_cons, List.map_nil, List.cons.injEq, and_true] at h
   refine (w_freezeC (j := 1) (i := 0) (k := 2) rfl rfl rfl (by decide) (.s _ true (by rw [lM]; exact h.1))).trans ?_
   refine (w_freezeC (j := 1) (i := 1) (k := 3) rfl rfl rfl (by decide) (.s _ true (by rw [lM]; exact h.2))).trans ?_
   refine (w_rowsC (k := 1) (sz := 1) [[.lst 13 (x'.map cIns)], [.lst 13 (y'.map cIns)]] rfl rfl rfl (by intro a ha; simp only [List.mem_cons, List.not_mem_nil, or_false] at ha; rcases ha with rfl | rfl <;> rfl) (by show 2 < _; decide)).trans ?_
   refine (w_freezeC (j := 0) (i := 1) (k := 1) rfl rfl rfl (by decide) (.s 2 true rfl)).trans ?_
   exact Weak.refl _ _
 ·match X, hl, h with
  | [x', y', z'], _, h =>
   simp only [List.map_cons, List.map_nil, List.cons.injEq, and_true] at h
   refine (w_freezeC (j := 1) (i := 0) (k := 2) rfl rfl rfl (by decide) (.s _ true (by rw [lM]; exact h.1))).trans ?_
   refine (w_freezeC (j := 1) (i := 1) (k := 3) rfl rfl rfl (by decide) (.s _ true (by rw [lM]; exact h.2.1))).trans ?_
   refine (w_freezeC (j := 1) (i := 2) (k := 4) rfl rfl rfl (by decide) (.s _ true (by rw [lM]; exact h.2.2))).trans ?_
   refine (w_rowsC (k := 1) (sz := 1) [[.lst 13 (x'.map cIns)], [.lst 13 (y'.map cIns)], [.lst 13 (z'.map cIns)]] rfl rfl rfl (by intro a ha; simp only [List.mem_cons, List.not_mem_nil, or_false] at ha; rcases ha with rfl | rfl | rfl <;> rfl) (by show 3 < _; decide)).trans ?_
   refine (w_freezeC (j := 0) (i := 1) (k := 1) rfl rfl rfl (by decide) (.s 3 true rfl)).trans ?_
   exact Weak.refl _ _
theorem swU_lens (g : Nat → Nat → Nat → Ins → Ins) (t : Nat) : ∀ (T : List (List Ins)) (k : Nat), T.map List.length = (swU g t k T).map List.length
 | [], _ => rfl
 | x :: r, k => by
  rw [swU, List.map_cons, List.map_cons, ← swU_lens g t r]
  congr 1
  cases Nat.blt k t with
  | true => exact (swF_len ..).symm
  | false => rfl
def bI (t i : Nat) (ls : List ByteArray) : Ins := ⟨if i % 4 = 2 then 9 else 8, decide (i % 4 = 2), 0, ⟨3, 0, ((t + i / 2) % 3 : Nat), 0⟩, ⟨1, (i % 3 : Nat), 0, 0⟩, bs [], ls⟩
def gL (t n i : Nat) (y : Ins) : Ins := if i % 2 = 0 ∧ i + 1 < n then bI t i y.labels else y
theorem bI_all : ((List.range 3).all fun t => (List.range 30).all fun i => decide (insStep syms3 (bI t i []) = 0)) = true := by kernel_rfl
theorem bI_step {t i : Nat} (ht : t < 3) (hi : i < 30) (ls : List ByteArray) : insStep syms3 (bI t i ls) = 0 := by
 have h := List.all_eq_true.1 (List.all_eq_true.1 bI_all t (List.mem_range.2 ht)) i (List.mem_range.2 hi)
 exact of_decide_eq_true h
theorem bI_jump (t i : Nat) (ls : List ByteArray) : jumpB (bI t i ls) = false := by
 unfold jumpB bI
 by_cases h : i % 4 = 2 <;> simp [h]
theorem gL_ok {t : Nat} (ht : t < 3) {x : List Ins} (hl : x.length ≤ 30) (i : Nat) (y : Ins) (h : x[i]? = some y) : swOk syms3 x.length i y (gL t x.length i y) := by
 have hi := (List.getElem?_eq_some_iff.1 h).1
 unfold gL
 split
 ·rename_i hc
  exact .inr ⟨hc.2, rfl, bI_step ht (by omega) _, bI_jump _ _ _, by show 0 ≤ 3; decide, in0⟩
 ·exact .inl rfl
theorem swF_all (g : Nat → Ins → Ins) (x : List Ins) : swF g x.length x = swG g 0 x := by
 refine List.ext_getElem? fun i => ?_
 rw [swF_get, swG_get, Nat.zero_add]
 cases hx : x[i]? with
 | none => rfl
 | some z => show some (upG g x.length i z) = some (g i z); rw [upG, if_pos (List.getElem?_eq_some_iff.1 hx).1]
theorem sw_book {g : Nat → Nat → Nat → Ins → Ins} (l : List (List Act)) (hl : ∀ r ∈ l, ∀ a ∈ r, inR a.n) (hg : ∀ t x, t < 3 → x ∈ (l.take 3).map (thO 8) → ∀ i y, x[i]? = some y → swOk syms3 x.length i y (g t x.length i y)) (X : List (List Ins)) (hX : X = swU g 3 0 ((l.take 3).map (thO 8))) :
  okP ⟨syms3, X⟩ ∧ checkC ⟨syms3, X⟩ = 0 ∧ numsOk ⟨syms3, X⟩ ∧ stQ ⟨syms3, X⟩ (start0 ⟨syms3, X⟩) := by
 have hT := th_ok l hl
 have hTl : ((l.take 3).map (thO 8)).length ≤ 3 := by rw [lM, List.length_take]; omega
 refine sw_prog (by rw [hX, swU_len]; exact hTl) fun z hz => ?_
 rw [hX] at hz
 obtain ⟨j, x, h1, h2, rfl⟩ := swU_mem _ _ _ (by omega) z hz
 obtain ⟨a1, a2, a3, a4⟩ := hT x h1
 rw [swF_all]
 exact sw_thread (hg j x (by omega) h1) a4 a1 a2 a3
def tlM {T : List (List Ins)} (_ : Mk T) : Nat := T.length
theorem swU_ge (g : Nat → Nat → Nat → Ins → Ins) {t t' : Nat} : ∀ (T : List (List Ins)) (k : Nat), k + T.length ≤ t → k + T.length ≤ t' → swU g t k T = swU g t' k T
 | [], _, _, _ => rfl
 | x :: r, k, h, h' => by
  rw [List.length_cons] at h h'
  rw [swU, swU, swU_ge (t' := t') g r (k + 1) (by omega) (by omega), show Nat.blt k t = true by rw [Nat.blt_eq]; omega, show Nat.blt k t' = true by rw [Nat.blt_eq]; omega]
theorem mk_all {g : Nat → Nat → Nat → Ins → Ins} {T X : List (List Ins)} (hM : Mk T) (h3 : T.length ≤ 3) (hX : X = swU g 3 0 T) : swU g (tlM hM) 0 T = X := by
 rw [hX]; exact swU_ge g T 0 (by unfold tlM; omega) (by omega)
theorem mk_get {T : List (List Ins)} (hM : Mk T) {t : Nat} (h : t < tlM hM) : ∃ x, T[t]? = some x := ⟨_, List.getElem?_eq_getElem h⟩
def Mk3 (_ : Nat) (_ : List Ins) : Prop := True
def invL {T : List (List Ins)} (_ : Mk T) (picks : List Int) (m : Nat) (env : TEnv) (σ : TS) : Prop := ∃ t : Nat, t ≤ T.length ∧ m = T.length - t ∧ env = [(1, rwI picks), (5, .p 0 0), (6, tI t)] ∧ σ = ⟨prM T (swU gL t 0 T), 20⟩
def invL2 {T : List (List Ins)} (_ : Mk T) (picks : List Int) {t : Nat} {x : List Ins} (_ : Mk3 t x) (m : Nat) (env : TEnv) (σ : TS) : Prop := ∃ i : Nat, i % 2 = 0 ∧ i ≤ x.length + 1 ∧ m = x.length - i ∧ env = [(1, rwI picks), (5, .p 0 0), (6, tI t), (7, .s (2 + t) 13 0 x.length true), (8, tI i)] ∧ σ = ⟨prM T ((swU gL t 0 T).set t (swF (gL t x.length) i x)), 20⟩
def invLP {p : Prg} {m0 : Nat} {s0 : State} {R0 : List Rg} (_ : oQ p m0 (s0, R0)) (row : List (Int × Bool)) (m : Nat) (env : TEnv) (σ : TS) : Prop :=
 ∃ a b, row = a ++ b ∧ m = b.length ∧ env = [(10, .p 0 0), (11, .p (4 + 2 * R0.length) 0), (5, .p (8 + 2 * R0.length) 0), (12, .lst 2 (row.map cPick)), (13, tI a.length)] ∧
  σ = ⟨owM p (runO p (s0, R0) a).1 (runO p (s0, R0) a).2 0 ++ (rfT (runO p (s0, R0) a).1 (4 + 2 * R0.length) ++ [(8 + 2 * R0.length, .cells (cPrg p) 27)]), 60⟩
theorem locArith (t i : Nat) (ht : t < 3) (hi : i < 1000000) : (IntKind.i64.wrap ((t : Int) + IntKind.i64.wrap ((i : Int).tdiv 2))).tmod 3 = (((t + i / 2) % 3 : Nat) : Int) ∧ (i : Int).tmod 3 = ((i % 3 : Nat) : Int) ∧ (i : Int).tmod 4 = ((i % 4 : Nat) : Int) := by
 have e : (i : Int).tdiv 2 = ((i / 2 : Nat) : Int) := (Int.ofNat_tdiv i 2).symm
 rw [e, w64 (x := ((i / 2 : Nat) : Int)) (by omega), w64 (by omega)]
 refine ⟨?_, (Int.ofNat_tmod i 3).symm, (Int.ofNat_tmod i 4).symm⟩
 have : (t : Int) + ((i / 2 : Nat) : Int) = ((t + i / 2 : Nat) : Int) := by omega
 rw [this]
 exact (Int.ofNat_tmod _ 3).symm
theorem bI_two {t i : Nat} (ht : t < 3) (hi : i < 1000000) (ls : List ByteArray) : (decide ((i : Int).tmod 4 = 2) = true ∧ cIns (bI t i ls) = [tI 9, tB true, tI 0, tI 3, tI 0, tI ((IntKind.i64.wrap ((t : Int) + IntKind.i64.wrap ((i : Int).tdiv 2))).tmod 3), tI 0, tI 1, tI ((i : Int).tmod 3), tI 0, tI 0, tS (bs []), .lst 1 (ls.map fun s => [tS s])]) ∨
  (decide ((i : Int).tmod 4 = 2) = false ∧ cIns (bI t i ls) = [tI 8, tB false, tI 0, tI 3, tI 0, tI ((IntKind.i64.wrap ((t : Int) + IntKind.i64.wrap ((i : Int).tdiv 2))).tmod 3), tI 0, tI 1, tI ((i : Int).tmod 3), tI 0, tI 0, tS (bs []), .lst 1 (ls.map fun s => [tS s])]) := by
 obtain ⟨e1, e2, e3⟩ := locArith t i ht hi
 rw [e1, e2, e3]
 by_cases h : i % 4 = 2
 ·exact .inl ⟨dT (by omega), by simp only [bI, cIns, h, if_true, decide_true]⟩
 ·exact .inr ⟨dF (by omega), by simp only [bI, cIns, if_neg h, dF h]⟩
theorem invL2_step {t : Nat} {x : List Ins} (_ : Mk3 t x) (ht : t < 3) (hxl : x.length ≤ 30) (i : Nat) (hi2 : i % 2 = 0) (hle : i ≤ x.length + 1) :
  (i + 1 < x.length ∧ decide (IntKind.i64.wrap ((i : Int) + 1) < (x.length : Int)) = true ∧ ∃ y, ((swF (gL t x.length) i x).map cIns)[i]? = some (cIns y) ∧
   ∃ c, (decide ((i : Int).tmod 4 = 2) = c ∧ (swF (gL t x.length) (i + 2) x).map cIns = ((swF (gL t x.length) i x).map cIns).set i [tI (bif c then 9 else 8), tB c, tI 0, tI 3, tI 0, tI ((IntKind.i64.wrap ((t : Int) + IntKind.i64.wrap ((i : Int).tdiv 2))).tmod 3), tI 0, tI 1, tI ((i : Int).tmod 3), tI 0, tI 0, tS (bs []), .lst 1 (y.labels.map fun s => [tS s])])) ∨
  (¬ (i + 1 < x.length) ∧ decide (IntKind.i64.wrap ((i : Int) + 1) < (x.length : Int)) = false ∧ swF (gL t x.length) x.length x = swF (gL t x.length) i x) := by
 have hw : IntKind.i64.wrap ((i : Int) + 1) = (i : Int) + 1 := w64 (by omega)
 rw [hw]
 by_cases h : i + 1 < x.length
 ·refine .inl ⟨h, dT (by omega), x[i], ?_, ?_⟩
  ·rw [List.getElem?_map, swF_at (List.getElem?_eq_getElem (by omega))]; rfl
  ·have hy : x[i]? = some x[i] := List.getElem?_eq_getElem (by omega)
   generalize x[i] = y at hy
   have hrow : (swF (gL t x.length) (i + 2) x).map cIns = ((swF (gL t x.length) i x).map cIns).set i (cIns (bI t i y.labels)) := by
    rw [show i + 2 = i + 1 + 1 from rfl, swF_skip (J := i + 1) (fun z _ => by unfold gL; rw [if_neg (by omega)]), swF_succ hy, List.map_set]
    congr 2
    unfold gL
    rw [if_pos ⟨hi2, h⟩]
   rcases bI_two (i := i) ht (by omega) y.labels with ⟨a, b⟩ | ⟨a, b⟩
   ·exact ⟨true, a, by rw [hrow, b]; rfl⟩
   ·exact ⟨false, a, by rw [hrow, b]; rfl⟩
 ·refine .inr ⟨h, dF (by omega), ?_⟩
  by_cases hi : x.length ≤ i
  ·exact swF_ge (Nat.le_refl _) hi
  ·have he : x.length = i + 1 := by omega
   rw [swF_ge (J := x.length) (K := i + 1) (Nat.le_refl _) (by omega)]
   exact swF_skip fun z _ => by unfold gL; rw [if_neg (by omega)]
section
attribute [local irreducible] TwS TwR thenT inBlockT retT nextW localW loadedW swapW Rg.push Rg.pop owW doO thO swF
variable {G : World → Prop}
set_option maxHeartbeats 20000000 in
theorem owensLocked (l : List (List Act)) (hl : ∀ r ∈ l, ∀ a ∈ r, inR a.n) (picks : List Int) : Pure prog Tabs 4 [cActs l, rwI picks] (tB true) := by
 have c1 := progM_own (G := Tabs) l
 have hT := th_ok l hl
 have hT3 : ((l.take 3).map (thO 8)).length ≤ 3 := by rw [lM, List.length_take]; omega
 obtain ⟨X, hX⟩ : ∃ X, X = swU gL 3 0 ((l.take 3).map (thO 8)) := ⟨_, rfl⟩
 obtain ⟨ho, hc, hn, hq⟩ := sw_book l hl (g := gL) (fun t x ht hx i y hy => gL_ok ht (hT x hx).2.2.2 i y hy) X hX
 have hXT : ((l.take 3).map (thO 8)).map List.length = X.map List.length := by rw [hX]; exact swU_lens ..
 generalize (l.take 3).map (thO 8) = T at *
 have hM : Mk T := trivial
 have h3 : (⟨syms3, X⟩ : Prg).threads.length ≤ 3 := by show X.length ≤ 3; rw [hX, swU_len]; exact hT3
 have hth : ((⟨syms3, X⟩ : Prg).threads.map cTh).length = (⟨syms3, X⟩ : Prg).threads.length := lM ..
 have hwp := fun C env => w_prg (C := C) (env := env) (n := 20) T X hT3 hXT
 generalize hp2 : (⟨syms3, X⟩ : Prg) = p at *
 have hq0 := beginO_ok hq
 obtain ⟨k1, k2, k3, _⟩ := check_syms hc
 have c2 := onew_own p ho hc (start_okS hc) rfl h3
 have c2' := beginT_own (G := Tabs) p k1 k2 k3
 rw [show startT p = (beginM p).1 from rfl] at c2'
 have c3 := aliveO_spec
 have c4 := picks_own (G := Tabs) picks (p.threads.map cTh).length 60 (by omega) (by decide)
 have hsl := picksF_len picks (p.threads.map cTh).length 60
 generalize picksF picks (p.threads.map cTh).length 60 = row at c4 hsl
 have hsm : (row.map cPick).length = row.length := lM ..
 have hR0 : (beginM p).2.length ≤ 3 := by show (List.replicate _ _).length ≤ 3; rw [List.length_replicate]; exact h3
 have hlk : (beginM p).1.lock = 0 := rfl
 have hRT : (beginM p).2.length = T.length := by
  show (List.replicate _ _).length = _
  rw [List.length_replicate, ← hp2]
  show X.length = _
  rw [hX, swU_len]
 generalize hqe : beginM p = q0 at *
 obtain ⟨s0, R0⟩ := q0
 simp only at c2'
 simp only at hRT
 rcases rowsH hT3 hRT with ⟨rfl, rfl⟩ | ⟨_, _, rfl, rfl⟩ | ⟨_, _, _, _, rfl, rfl⟩ | ⟨_, _, _, _, _, _, rfl, rfl⟩
 all_goals
  refine Pure.at mixedOk F4 rfl fun C hP hG hp => goF ?_; simp only [F4, targEnv, Nat.zero_add, Nat.reduceAdd]
  repeat' (first | refine goR rfl ?_ | refine goS rfl ?_ | refine tret1 rfl ?_ | refine tretN rfl ?_ | refine gY rfl rfl ?_ | refine gN rfl rfl ?_ | refine qT rfl rfl ?_ | refine qF rfl rfl ?_ | refine tr_mcallX hP hG (c1) rfl rfl rfl rfl rfl rfl rfl rfl rfl rfl rfl rfl ?_ | fail)
  refine loopS (invL hM picks) _ (w_canon 20 [] [1, 5, 6] hp rfl rfl rfl rfl) ⟨0, Nat.zero_le _, rfl, rfl, rfl⟩ ?_
  rintro m1 env σ ⟨t, ht, rfl, rfl, rfl⟩
  have hte : t = tlM hM ∨ t < tlM hM := by unfold tlM; omega
  rcases hte with hte | hlt
  ·have hXe := mk_all hM hT3 hX
   subst hte
   rw [hXe]
   refine ts_weak (hwp C _) ?_
   have hpl : (p.threads.map cTh).length = tlM hM := by
    rw [lM, ← hp2]
    show X.length = _
    rw [hX, swU_len]
    rfl
   repeat' (first | refine goR rfl ?_ | refine goS rfl ?_ | refine tret1 rfl ?_ | refine tretN rfl ?_ | refine gY rfl rfl ?_ | refine gN rfl rfl ?_ | refine qT rfl rfl ?_ | refine qF rfl rfl ?_ | refine qF rfl (dF (by rw [hpl]; omega)) ?_ | refine tr_mcallX hP hG (c2) rfl rfl rfl rfl rfl rfl rfl rfl rfl rfl rfl rfl ?_ | refine tr_mcallX hP hG (c2') rfl rfl rfl rfl rfl rfl rfl rfl rfl rfl rfl rfl ?_ | refine tr_mcallX hP hG (c4) rfl rfl rfl rfl rfl rfl rfl rfl rfl rfl rfl rfl ?_ | fail)
   refine ts_weak (w_frzS 12 rfl rfl hsm.symm) ?_
   refine loopS (invLP hq0 row) row.length (w_canon 60 [] [10, 11, 5, 12, 13] hp rfl rfl rfl rfl) ⟨[], row, rfl, rfl, rfl, by rw [show tI (0 : Int) = tI (runO p (s0, _) []).1.lock by exact congrArg tI hlk.symm]; rfl⟩ ?_
   rintro m1 env σ ⟨a, b, e, rfl, rfl, rfl⟩
   have hla : row.length = a.length + b.length := by rw [e, lA]
   have hqa := hq0.run hc hn a
   cases b with
   | nil =>
    rw [List.length_nil] at hla
    have hlt : decide ((a.length : Int) < ((row.map cPick).length : Int)) = false := dF (by omega)
    obtain ⟨s1, R1, hq1, hl1, hR1⟩ := hqa.split hq0 h3
    rw [hq1]
    rcases rows3 hR1 with rfl | ⟨_, rfl⟩ | ⟨_, _, rfl⟩ | ⟨_, _, _, rfl⟩
    all_goals first | (exfalso; simp at hl1; done) | skip
    all_goals
     repeat' (first | refine goR rfl ?_ | refine goS rfl ?_ | refine tret1 rfl ?_ | refine tretN rfl ?_ | refine gY rfl rfl ?_ | refine gN rfl rfl ?_ | refine qT rfl rfl ?_ | refine qF rfl rfl ?_ | refine qF rfl hlt ?_ | refine cA rfl (by rw [hP, hG]; exact c3) rfl ?_ | fail)
     exact .fr rfl
   | cons x b =>
    have hx : row[a.length]? = some x := by rw [e]; exact ix
    simp only [List.length_cons] at hla
    have hlt : decide ((a.length : Int) < ((row.map cPick).length : Int)) = true := dT (by omega)
    have hw1 : IntKind.i64.wrap ((a.length : Int) + 1) = ((a ++ [x]).length : Int) := by rw [w64 (by omega), lA]; rfl
    have hqa2 := hqa.step hc hn x
    have c5 := odo_own p ho hc _ hqa (by omega) h3 x.1 x.2
    have c6 := owR_own p ho hc _ hqa.st hqa.blen (by have := hqa.thr; omega) (fun l hl => ⟨by have := (hqa.few l hl).1; omega, (hqa.few l hl).2⟩) hqa.held x.1 x.2
    have c7 := ostate_own (G := Tabs) p _ hqa2 (by omega) (by have := hqa2.memLen hc; omega) h3
    have hok := hqa2.okS hc (by omega) (by omega)
    have c8 := sameSt_spec (G := Tabs) _ hok
    obtain ⟨s1, R1, hq1, hl1, hR1⟩ := hqa.split hq0 h3
    obtain ⟨s2, R2, hq2, hl2, hR2⟩ := hqa2.split hqa h3
    have hms : (owW p s1 x.1 x.2).1 = s2 := by
     have := congrArg Prod.fst hq2
     rw [hq1] at this
     exact this
    rw [show (x.1, x.2) = x from rfl, hq2] at c5
    rw [hq2] at c7 c8
    rw [hq1] at c5 c6 hl2
    simp only at c5 c6 c7 c8 hl2
    rw [hms] at c6
    rw [hq1]
    generalize (owW p s1 x.1 x.2).2 = b1 at c5 c6
    have hbb : (!(b1 == b1)) = false := by cases b1 <;> rfl
    rcases rows33 hR1 hl2 with ⟨rfl, rfl⟩ | ⟨_, _, rfl, rfl⟩ | ⟨_, _, _, _, rfl, rfl⟩ | ⟨_, _, _, _, _, _, rfl, rfl⟩
    all_goals first | (exfalso; simp at hl1; done) | skip
    all_goals
     repeat' (first | refine goR rfl ?_ | refine goS rfl ?_ | refine tret1 rfl ?_ | refine tretN rfl ?_ | refine gY rfl rfl ?_ | refine gN rfl rfl ?_ | refine qT rfl rfl ?_ | refine qF rfl rfl ?_ | refine qT rfl hlt ?_ | refine lT (tl_ixm rfl rfl rfl hx) ?_ | refine tr_mcallX hP hG (c5) rfl rfl rfl rfl rfl rfl rfl rfl rfl rfl rfl rfl ?_ | refine tr_mcallX hP hG (c6) rfl rfl rfl rfl rfl rfl rfl rfl rfl rfl rfl rfl ?_ | (refine lT (tl_neb (by rw [hP]; exact ut_bool) rfl rfl) ?_; rw [hbb]) | refine tr_mcallX hP hG (c7) rfl rfl rfl rfl rfl rfl rfl rfl rfl rfl rfl rfl ?_ | refine tr_callV hP hG (c8) rfl (by (repeat' first | exact FzL.nil | refine FzL.cons ?_ ?_ | exact Fz.fr rfl | exact Fz.nil _ | exact Fz.s _ _ _ _ _ _ rfl (lM ..).symm | exact Fz.s _ _ _ _ _ _ rfl rfl | refine Fz.pL rfl ?_ | refine Fz.aggL ?_); first | done | fail) rfl ?_ | fail)
     refine again (m' := b.length) (Nat.lt_succ_self _) (w_canon 60 [] [10, 11, 5, 12, 13] hp rfl rfl rfl rfl) ⟨a ++ [x], b, by rw [e]; simp, rfl, by rw [hw1]; rfl, by rw [runO_snoc, hq2]; rfl⟩
  ·have h4 : t = 0 ∨ t = 1 ∨ t = 2 := by have : tlM hM ≤ 3 := hT3; omega
   obtain ⟨x, hx⟩ := mk_get hM hlt
   have hxl := (hT x (List.mem_of_getElem? hx)).2.2.2
   have hM3 : Mk3 t x := trivial
   rcases h4 with rfl | rfl | rfl
   all_goals first | (exfalso; simp [tlM] at hlt; done) | skip
   all_goals
    cases hx
    repeat' (first | refine goR rfl ?_ | refine goS rfl ?_ | refine tret1 rfl ?_ | refine tretN rfl ?_ | refine gY rfl rfl ?_ | refine gN rfl rfl ?_ | refine qT rfl rfl ?_ | refine qF rfl rfl ?_ | refine lT (tl_ixo rfl rfl rfl (Nat.le_of_ble_eq_true rfl)) ?_ | refine lT (tl_ldEC rfl rfl rfl) ?_ | fail)
    refine loopS (invL2 hM picks hM3) _ (w_canon 20 [] [1, 5, 6, 7, 8] hp rfl rfl rfl rfl) ⟨0, rfl, Nat.zero_le _, rfl, rfl, by rw [swF_0]; rfl⟩ ?_
    rintro m2 env σ ⟨i, hi2, hle, rfl, rfl, rfl⟩
    have hw2 : IntKind.i64.wrap ((i : Int) + 2) = ((i + 2 : Nat) : Int) := by rw [w64 (by omega)]; rfl
    rcases invL2_step hM3 (by decide) hxl i hi2 hle with ⟨hil, hcd, y, hget, c, hc, hrow⟩ | ⟨hil, hcd, hfin⟩
    ·cases c
     all_goals
      simp only [cond_true, cond_false] at hrow
      repeat' (first | refine goR rfl ?_ | refine goS rfl ?_ | refine tret1 rfl ?_ | refine tretN rfl ?_ | refine gY rfl rfl ?_ | refine gN rfl rfl ?_ | refine qT rfl rfl ?_ | refine qF rfl rfl ?_ | refine qT rfl hcd ?_ | refine qT rfl hc ?_ | refine qF rfl hc ?_ | refine lT (tl_ixo (m := i) rfl rfl rfl (by omega)) ?_ | refine lT (tl_ldE rfl rfl hget rfl) ?_ | refine tr_storeE rfl rfl hget rfl rfl rfl rfl rfl rfl ?_ | fail)
      refine again ?_ (w_canon 20 [] [1, 5, 6, 7, 8] hp rfl rfl rfl rfl) ⟨i + 2, by omega, by omega, rfl, by rw [hw2], ?_⟩
      ·omega
      ·simp only [prM, thsO, swU, List.set_cons_zero, List.set_cons_succ, hrow]; rfl
    ·repeat' (first | refine goR rfl ?_ | refine goS rfl ?_ | refine tret1 rfl ?_ | refine tretN rfl ?_ | refine gY rfl rfl ?_ | refine gN rfl rfl ?_ | refine qT rfl rfl ?_ | refine qF rfl rfl ?_ | refine qF rfl hcd ?_ | fail)
     refine again ?_ (w_canon 20 [] [1, 5, 6] hp rfl rfl rfl rfl) ⟨_ + 1, hlt, rfl, rfl, ?_⟩
     ·simp
     ·simp only [prM, thsO, swU, List.set_cons_zero, List.set_cons_succ, hfin]; rfl
end
end Go.Proofs.YtjaipefmifbghaaGreatDoor
