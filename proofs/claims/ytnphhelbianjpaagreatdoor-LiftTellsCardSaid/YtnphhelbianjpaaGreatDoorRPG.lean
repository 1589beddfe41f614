/-
  Walks of functions of the program, and what the laws need of them.
-/
import Derived.Test.YtnphhelbianjpaaGreatDoorRPD
import Derived.Test.YtnphhelbianjpaaGreatDoorRPA
import Derived.Test.YtnphhelbianjpaaGreatDoorVH
import Derived.Test.YtnphhelbianjpaaGreatDoorRPE
set_option linter.all false
set_option linter.unusedSimpArgs false
set_option linter.unusedVariables false
set_option linter.unnecessarySimpa false
namespace Go.Proofs.YtnphhelbianjpaaGreatDoor
set_option maxRecDepth 20000
open Go Go.Proofs.YtnphhelbianjpaaGreatDoor.V Go.Proofs

theorem ut_u8 : prog.underlying 5 = some (.int .u8) := by kernel_rfl
def regO (k : Int) : Opd := ⟨1, k % 4, 0, 0⟩
def memO (k : Int) : Opd := if k % 60 % 5 = 4 then ⟨4, k % 60 / 15, k % 60 / 5 % 3, 0⟩ else ⟨3, 0, k % 60 / 5 % 3, if k % 60 / 5 % 3 = 1 then k % 60 % 5 % 2 else 0⟩
def plnO (k n : Int) : Opd := if k % 3 = 0 then regO (i64 (k.tdiv 3)) else ⟨2, 0, 0, n⟩
theorem td5 {a : Int} (h : 0 ≤ a) : a.tdiv 5 = a / 5 := Int.tdiv_eq_ediv_of_nonneg h
theorem td15 {a : Int} (h : 0 ≤ a) : a.tdiv 15 = a / 15 := Int.tdiv_eq_ediv_of_nonneg h
theorem tm {a b : Int} (h : 0 ≤ a) : a.tmod b = a % b := Int.tmod_eq_emod_of_nonneg h
section
attribute [local irreducible] TwS TwR thenT inBlockT retT IntKind.wrap
variable {G : World → Prop}
theorem regO_spec (k : Int) : Pure prog G 52 [tI k] (.agg (cOpd (regO k))) := by
 have c : ∀ G, Pure prog G 25 [tI k, tI 4] (tI (k % 4)) := fun G => pick_spec k 3 (by decide)
 refine Pure.at mixedOk F52 rfl fun C hP hG hp => goF ?_; simp only [F52, targEnv, Nat.zero_add, Nat.reduceAdd]
 repeat' (first | refine goR rfl ?_ | refine goS rfl ?_ | refine tret1 rfl ?_ | refine tretN rfl ?_ | refine gY rfl rfl ?_ | refine gN rfl rfl ?_ | refine qT rfl rfl ?_ | refine qF rfl rfl ?_ | refine cA rfl (by rw [hP]; exact c _) rfl ?_ | ((first | refine gS rfl (fun h => ?_) (fun h => ?_) | refine ts_cond rfl (fun h => ?_) (fun h => ?_)) <;> try simp only [bs0, beq_iff_eq] at h) | fail)
 exact .fr rfl
theorem plnO_spec (k n : Int) : Pure prog G 53 [tI k, tI n] (.agg (cOpd (plnO k n))) := by
 have c : ∀ G, Pure prog G 25 [tI k, tI 3] (tI (k % 3)) := fun G => pick_spec k 2 (by decide)
 refine Pure.at mixedOk F53 rfl fun C hP hG hp => goF ?_; simp only [F53, targEnv, Nat.zero_add, Nat.reduceAdd]
 repeat' (first | refine goR rfl ?_ | refine goS rfl ?_ | refine tret1 rfl ?_ | refine tretN rfl ?_ | refine gY rfl rfl ?_ | refine gN rfl rfl ?_ | refine qT rfl rfl ?_ | refine qF rfl rfl ?_ | refine cA rfl (by rw [hP]; exact c _) rfl ?_ | refine cA rfl (by rw [hP]; exact regO_spec _) rfl ?_ | ((first | refine gS rfl (fun h => ?_) (fun h => ?_) | refine ts_cond rfl (fun h => ?_) (fun h => ?_)) <;> try simp only [bs0, beq_iff_eq] at h) | fail)
 ·rw [plnO, if_pos h]; exact .fr rfl
 ·rw [plnO, if_neg h]; exact .fr rfl
theorem memO_spec (k : Int) : Pure prog G 54 [tI k] (.agg (cOpd (memO k))) := by
 have c : ∀ G, Pure prog G 25 [tI k, tI 60] (tI (k % 60)) := fun G => pick_spec k 59 (by decide)
 unfold memO
 have h1 : 0 ≤ k % 60 := by omega
 have h2 : k % 60 < 60 := by omega
 generalize k % 60 = q at c h1 h2
 have e1 : q.tdiv ((4 + 1 : Nat) : Int) = q / 5 := td5 h1
 have e2 : q.tmod ((4 + 1 : Nat) : Int) = q % 5 := tm h1
 have e3 : (q / 5).tmod ((2 + 1 : Nat) : Int) = q / 5 % 3 := tm (by omega)
 have e4 : q.tdiv ((14 + 1 : Nat) : Int) = q / 15 := td15 h1
 have e5 : (q % 5).tmod ((0 + 1 : Nat) : Int) = 0 := (tm (by omega)).trans (by omega)
 have e6 : (q % 5).tmod ((1 + 1 : Nat) : Int) = q % 5 % 2 := tm (by omega)
 have w1 : IntKind.i64.wrap (q / 5) = q / 5 := w64 (by omega)
 have w2 : IntKind.i64.wrap (q / 15) = q / 15 := w64 (by omega)
 refine Pure.at mixedOk F54 rfl fun C hP hG hp => goF ?_; simp only [F54, targEnv, Nat.zero_add, Nat.reduceAdd]
 by_cases h : q % 5 = 4
 ·rw [if_pos h]
  repeat' (first | refine goR rfl ?_ | refine goS rfl ?_ | refine tret1 rfl ?_ | refine tretN rfl ?_ | refine gY rfl rfl ?_ | refine gN rfl rfl ?_ | refine qT rfl rfl ?_ | refine qF rfl rfl ?_ | refine cA rfl (by rw [hP]; exact c _) rfl ?_ | refine qT rfl (dT (by rw [← h]; exact e2)) ?_ | fail)
  rw [e1, w1, e3, e4, w2]
  exact .fr rfl
 ·rw [if_neg h]
  have hs : q / 5 % 3 = 0 ∨ q / 5 % 3 = 1 ∨ q / 5 % 3 = 2 := by omega
  rcases hs with hs | hs | hs
  ·rw [hs, if_neg (by decide)]
   repeat' (first | refine goR rfl ?_ | refine goS rfl ?_ | refine tret1 rfl ?_ | refine tretN rfl ?_ | refine gY rfl rfl ?_ | refine gN rfl rfl ?_ | refine qT rfl rfl ?_ | refine qF rfl rfl ?_ | refine cA rfl (by rw [hP]; exact c _) rfl ?_ | refine qF rfl (dF (fun hh => h (e2.symm.trans hh))) ?_ | refine lT (tl_ixo (m := 0) rfl rfl (by rw [e1, w1, e3, hs]; rfl) (by decide)) ?_ | refine lT (tl_ldE rfl rfl rfl rfl) ?_ | fail)
   rw [e1, w1, e3, e2, hs, e5]
   exact .fr rfl
  ·rw [hs, if_pos rfl]
   repeat' (first | refine goR rfl ?_ | refine goS rfl ?_ | refine tret1 rfl ?_ | refine tretN rfl ?_ | refine gY rfl rfl ?_ | refine gN rfl rfl ?_ | refine qT rfl rfl ?_ | refine qF rfl rfl ?_ | refine cA rfl (by rw [hP]; exact c _) rfl ?_ | refine qF rfl (dF (fun hh => h (e2.symm.trans hh))) ?_ | refine lT (tl_ixo (m := 1) rfl rfl (by rw [e1, w1, e3, hs]; rfl) (by decide)) ?_ | refine lT (tl_ldE rfl rfl rfl rfl) ?_ | fail)
   rw [e1, w1, e3, e2, hs, e6]
   exact .fr rfl
  ·rw [hs, if_neg (by decide)]
   repeat' (first | refine goR rfl ?_ | refine goS rfl ?_ | refine tret1 rfl ?_ | refine tretN rfl ?_ | refine gY rfl rfl ?_ | refine gN rfl rfl ?_ | refine qT rfl rfl ?_ | refine qF rfl rfl ?_ | refine cA rfl (by rw [hP]; exact c _) rfl ?_ | refine qF rfl (dF (fun hh => h (e2.symm.trans hh))) ?_ | refine lT (tl_ixo (m := 2) rfl rfl (by rw [e1, w1, e3, hs]; rfl) (by decide)) ?_ | refine lT (tl_ldE rfl rfl rfl rfl) ?_ | fail)
   rw [e1, w1, e3, e2, hs, e5]
   exact .fr rfl
def labO (k : Nat) : ByteArray := bs [108, 48 + k / 10, 48 + k % 10]
theorem lab_app (a b : Nat) : bs [108] ++ bsI [(a : Int), (b : Int)] = bs [108, a, b] := by
 apply ByteArray.ext
 rw [ByteArray.data_append]
 simp [bs, bsI]
theorem lab_spec (k : Nat) (hk : k < 100) : Pure prog G 24 [tI k] (tS (labO k)) := by
 have e1 : (k : Int).tdiv ((9 + 1 : Nat) : Int) = ((k / 10 : Nat) : Int) := Int.tdiv_eq_ediv_of_nonneg (by omega)
 have e2 : (k : Int).tmod ((9 + 1 : Nat) : Int) = ((k % 10 : Nat) : Int) := Int.tmod_eq_emod_of_nonneg (by omega)
 refine Pure.at mixedOk F24 rfl fun C hP hG hp => goF ?_; simp only [F24, targEnv, Nat.zero_add, Nat.reduceAdd]
 repeat' (first | refine goR rfl ?_ | refine goS rfl ?_ | refine tret1 rfl ?_ | refine tretN rfl ?_ | refine gY rfl rfl ?_ | refine gN rfl rfl ?_ | refine qT rfl rfl ?_ | refine qF rfl rfl ?_ | refine lT (tl_conv (by rw [hP]; exact ut_int) (by rw [hP]; exact ut_u8) rfl) ?_ | refine lT (tl_b2s (l := [_, _]) rfl rfl rfl rfl (by simp)) ?_ | refine lT (tl_sadd rfl rfl (show 1 + 2 ≤ 9223372036854775807 by decide)) ?_ | fail)
 have u8 : ∀ n : Nat, n < 10 → IntKind.u8.wrap (IntKind.i64.wrap (48 + (n : Int))) = ((48 + n : Nat) : Int) := by
  intro n hn
  have : n = 0 ∨ n = 1 ∨ n = 2 ∨ n = 3 ∨ n = 4 ∨ n = 5 ∨ n = 6 ∨ n = 7 ∨ n = 8 ∨ n = 9 := by omega
  rcases this with rfl | rfl | rfl | rfl | rfl | rfl | rfl | rfl | rfl | rfl <;> with_unfolding_all rfl
 rw [e1, e2, w64 (by omega : -9223372036854775808 ≤ ((k / 10 : Nat) : Int) ∧ ((k / 10 : Nat) : Int) ≤ 9223372036854775807), u8 _ (by omega), u8 _ (by omega), lab_app]
 exact .fr rfl
end
end Go.Proofs.YtnphhelbianjpaaGreatDoor
namespace Go.Proofs.YtnphhelbianjpaaGreatDoor
set_option maxRecDepth 20000
open Go Go.Proofs.YtnphhelbianjpaaGreatDoor.V Go.Proofs
structure Act where
 kind : Int
 a : Int
 b : Int
 c : Int
 n : Int
def cAct (a : Act) : List TV := [tI a.kind, tI a.a, tI a.b, tI a.c, tI a.n]
def mkI (op : Int) (lock : Bool) (cond : Int) (a b : Opd) (to : ByteArray) : Ins := ⟨op, lock, cond, a, b, to, []⟩
def zOpd : Opd := ⟨0, 0, 0, 0⟩
def labN (n : Int) (many : Nat) : ByteArray := labO (n % (many : Int)).toNat
def insO (a : Act) (many : Nat) : Ins :=
 if a.kind % 22 = 0 then mkI 1 false 0 (regO a.a) (plnO a.b a.n) (bs [])
 else if a.kind % 22 = 1 ∨ a.kind % 22 = 16 ∨ a.kind % 22 = 17 then mkI 1 false 0 (regO a.a) (memO a.b) (bs [])
 else if a.kind % 22 = 2 ∨ a.kind % 22 = 18 ∨ a.kind % 22 = 19 ∨ a.kind % 22 = 20 then mkI 1 false 0 (memO a.a) (plnO a.b a.n) (bs [])
 else if a.kind % 22 = 3 then mkI (2 + a.c % 5) false 0 (regO a.a) (plnO a.b a.n) (bs [])
 else if a.kind % 22 = 4 then mkI (2 + a.c % 5) false 0 (regO a.a) (memO a.b) (bs [])
 else if a.kind % 22 = 5 ∨ a.kind % 22 = 21 then mkI (2 + a.c % 5) false 0 (memO a.a) (plnO a.b a.n) (bs [])
 else if a.kind % 22 = 6 then mkI 7 false 0 (regO a.a) (memO a.b) (bs [])
 else if a.kind % 22 = 7 then mkI 7 false 0 (memO a.a) (plnO a.b a.n) (bs [])
 else if a.kind % 22 = 8 then mkI 8 false 0 (memO a.a) (regO a.b) (bs [])
 else if a.kind % 22 = 9 then mkI 9 true 0 (memO a.a) (regO a.b) (bs [])
 else if a.kind % 22 = 10 then mkI (2 + a.c % 5) true 0 (memO a.a) (plnO a.b a.n) (bs [])
 else if a.kind % 22 = 11 then mkI 10 false 0 zOpd zOpd (labN a.a many)
 else if a.kind % 22 = 12 then mkI 11 false (1 + a.c % 10) zOpd zOpd (labN a.a many)
 else if a.kind % 22 = 13 then mkI 12 false 0 zOpd zOpd (bs [])
 else if a.kind % 22 = 14 then mkI 7 false 0 (regO a.a) (plnO a.b a.n) (bs [])
 else mkI 13 false 0 zOpd zOpd (bs [])
section
attribute [local irreducible] TwS TwR thenT inBlockT retT regO plnO memO labO
variable {G : World → Prop}
theorem insO_spec (a : Act) (m : Nat) (hm : m < 100) : Pure prog G 23 [.agg (cAct a), tI ((m + 1 : Nat) : Int)] (.agg (cIns (insO a (m + 1)))) := by
 have c1 : ∀ G, Pure prog G 25 [tI a.kind, tI 22] (tI (a.kind % 22)) := fun G => pick_spec a.kind 21 (by decide)
 have c2 : ∀ G, Pure prog G 25 [tI a.c, tI 5] (tI (a.c % 5)) := fun G => pick_spec a.c 4 (by decide)
 have c3 : ∀ G, Pure prog G 25 [tI a.c, tI 10] (tI (a.c % 10)) := fun G => pick_spec a.c 9 (by decide)
 have c4 : ∀ G, Pure prog G 25 [tI a.a, tI ((m + 1 : Nat) : Int)] (tI (a.a % ((m + 1 : Nat) : Int))) := fun G => pick_spec a.a m (by omega)
 have hl0 : 0 ≤ a.a % ((m + 1 : Nat) : Int) := Int.emod_nonneg _ (by omega)
 have hl1 : a.a % ((m + 1 : Nat) : Int) < ((m + 1 : Nat) : Int) := Int.emod_lt_of_pos _ (by omega)
 have c5 : ∀ G, Pure prog G 24 [tI (a.a % ((m + 1 : Nat) : Int))] (tS (labN a.a (m + 1))) := fun G => by
  have := lab_spec (G := G) (a.a % ((m + 1 : Nat) : Int)).toNat (by omega)
  rw [Int.toNat_of_nonneg hl0] at this
  exact this
 have hk : 0 ≤ a.kind % 22 ∧ a.kind % 22 < 22 := by omega
 have w1 : IntKind.i64.wrap (2 + a.c % 5) = 2 + a.c % 5 := w64 (by omega)
 have w2 : IntKind.i64.wrap (1 + a.c % 10) = 1 + a.c % 10 := w64 (by omega)
 have e4 : insO a (m + 1) = insO a (m + 1) := rfl
 conv at e4 => rhs; unfold insO
 generalize insO a (m + 1) = z at e4
 subst e4
 generalize a.kind % 22 = k at c1 hk
 refine Pure.at mixedOk F23 rfl fun C hP hG hp => goF ?_; simp only [F23, targEnv, Nat.zero_add, Nat.reduceAdd]
 repeat' (first | refine goR rfl ?_ | refine goS rfl ?_ | refine tret1 rfl ?_ | refine tretN rfl ?_ | refine gY rfl rfl ?_ | refine gN rfl rfl ?_ | refine qT rfl rfl ?_ | refine qF rfl rfl ?_ | refine cA rfl (by rw [hP]; exact c1 _) rfl ?_ | refine cA rfl (by rw [hP]; exact c2 _) rfl ?_ | refine cA rfl (by rw [hP]; exact c3 _) rfl ?_ | refine cA rfl (by rw [hP]; exact c4 _) rfl ?_ | refine cA rfl (by rw [hP]; exact c5 _) rfl ?_ | refine cA rfl (by rw [hP]; exact regO_spec a.a) rfl ?_ | refine cA rfl (by rw [hP]; exact regO_spec a.b) rfl ?_ | refine cA rfl (by rw [hP]; exact memO_spec a.a) rfl ?_ | refine cA rfl (by rw [hP]; exact memO_spec a.b) rfl ?_ | refine cA rfl (by rw [hP]; exact plnO_spec a.b a.n) rfl ?_ | ((first | refine gS rfl (fun h => ?_) (fun h => ?_) | refine ts_cond rfl (fun h => ?_) (fun h => ?_)) <;> (try simp only [bs0, beq_iff_eq] at h) <;> try (exfalso; omega; done)) | fail)
 all_goals repeat (first | rw [if_pos (by omega)] | rw [if_neg (by omega)])
 all_goals try rw [w1]
 all_goals try rw [w2]
 all_goals repeat' (first | exact FzL.nil | refine FzL.cons ?_ ?_ | exact .nil _ | exact .f _ rfl | exact .frT rfl | refine .tupL ?_ | refine .aggL ?_ | exact .s _ _ _ _ _ _ rfl rfl | refine .pL rfl ?_)
end
end Go.Proofs.YtnphhelbianjpaaGreatDoor
namespace Go.Proofs.YtnphhelbianjpaaGreatDoor
set_option maxRecDepth 20000
open Go Go.Proofs.YtnphhelbianjpaaGreatDoor.V Go.Proofs
def hltI : Ins := mkI 14 false 0 zOpd zOpd (bs [])
def syms3 : List Sym := [⟨bs [120], 1, []⟩, ⟨bs [121], 2, [1]⟩, ⟨bs [122], 1, [0]⟩]
def rawO (n : Nat) (r : List Act) : List Ins := (r.take n).map fun a => insO a (n + 1)
def baseO (n : Nat) (r : List Act) : List Ins := rawO n r ++ [hltI]
def labI (b : Bool) (k : Nat) (x : Ins) : Ins := if b = true then { x with labels := [labO k] } else x
def labS (f : Nat → Bool) (l : List Ins) : List Ins := l.mapIdx fun k x => labI (f k) k x
def tgtB (l : List Ins) (k : Nat) : Bool := l.any fun j => decide (labO k = j.to)
def thO (many : Nat) (r : List Act) : List Ins := labS (tgtB (rawO (min r.length many) r)) (baseO (min r.length many) r)
def progO (l : List (List Act)) (th many : Nat) : Prg := ⟨syms3, (l.take th).map (thO many)⟩
theorem labI_to (b : Bool) (k : Nat) (x : Ins) : (labI b k x).to = x.to := by unfold labI; split <;> rfl
theorem labS_len (f : Nat → Bool) (l : List Ins) : (labS f l).length = l.length := by simp [labS]
theorem labS_get (f : Nat → Bool) (l : List Ins) (k : Nat) : (labS f l)[k]? = (l[k]?).map (labI (f k) k) := by simp [labS, List.getElem?_mapIdx]
theorem labS_set (f g : Nat → Bool) (l : List Ins) (k : Nat) (x : Ins) (hx : l[k]? = some x) (hg : ∀ i, g i = if i = k then true else f i) : (labS f l).set k { x with labels := [labO k] } = labS g l := by
 refine List.ext_getElem? fun i => ?_
 rw [List.getElem?_set, labS_len, labS_get, labS_get, hg]
 obtain ⟨hlt, he⟩ := List.getElem?_eq_some_iff.1 hx
 by_cases h : k = i
 ·subst h
  rw [if_pos rfl, if_pos hlt, if_pos rfl, hx]; rfl
 ·rw [if_neg h, if_neg (fun e => h e.symm)]
theorem labS_ext {f g : Nat → Bool} {l : List Ins} (h : ∀ i, i < l.length → f i = g i) : labS f l = labS g l := by
 refine List.ext_getElem? fun i => ?_
 rw [labS_get, labS_get]
 by_cases hi : i < l.length
 ·rw [h i hi]
 ·rw [List.getElem?_eq_none (by omega)]; rfl
theorem raw_labs {n : Nat} {r : List Act} {x : Ins} (h : x ∈ baseO n r) : x.labels = [] := by
 rcases List.mem_append.1 h with h | h
 ·obtain ⟨a, _, rfl⟩ := List.mem_map.1 h
  simp only [insO, mkI, apply_ite Ins.labels, ite_self]
 ·rw [List.mem_singleton.1 h]; rfl
theorem labS_none (l : List Ins) : labS (fun _ => false) l = l := by
 refine List.ext_getElem? fun i => ?_
 rw [labS_get]
 cases l[i]? with
 | none => rfl
 | some x => rfl
theorem tgtB_take {l : List Ins} {i : Nat} {x : Ins} (h : l[i]? = some x) (k : Nat) : tgtB (l.take (i + 1)) k = (tgtB (l.take i) k || decide (labO k = x.to)) := by
 unfold tgtB
 rw [List.take_add_one, h, List.any_append]
 simp
theorem labO_ne (k : Nat) : labO k ≠ bs [] := by
 intro h
 have := congrArg ByteArray.size h
 have e1 : (labO k).size = 3 := rfl
 have e2 : (bs []).size = 0 := rfl
 omega
section
attribute [local irreducible] TwS TwR thenT inBlockT retT regO plnO memO labO insO
variable {G : World → Prop}
theorem progO_spec (l : List (List Act)) (th many : Nat) (hth : th ≤ 64) (hmany : many ≤ 90) : Pure prog G 5 [.lst 1 (l.map fun r => [.lst 5 (r.map cAct)]), tI th, tI many] (.agg (cPrg (progO l th many))) := by
 refine Pure.at mixedOk F5 rfl fun C hP hG hp => goF ?_; simp only [F5, targEnv, Nat.zero_add, Nat.reduceAdd]
 refine ts_bound (t := 0) rfl fun hlb => ?_
 rw [lM] at hlb
 repeat' (first | refine goR rfl ?_ | refine goS rfl ?_ | refine tret1 rfl ?_ | refine tretN rfl ?_ | refine gY rfl rfl ?_ | refine gN rfl rfl ?_ | refine qT rfl rfl ?_ | refine qF rfl rfl ?_ | fail)
 refine tr_weak ((w_freeze (d := 16) (k := 1) rfl rfl (.aggL (.cons (.refl _) (.cons (.refl _) (.cons (.s 1 true rfl) .nil))))).trans (w_freeze (d := 18) (k := 2) rfl rfl (.aggL (.cons (.refl _) (.cons (.refl _) (.cons (.s 1 true rfl) .nil)))))) ?_
 repeat' (first | refine goR rfl ?_ | refine goS rfl ?_ | refine tret1 rfl ?_ | refine tretN rfl ?_ | refine gY rfl rfl ?_ | refine gN rfl rfl ?_ | refine qT rfl rfl ?_ | refine qF rfl rfl ?_ | fail)
 refine loopS (fun m env σ => ∃ a b, l.take th = a ++ b ∧ m = b.length ∧ env = [(0, .lst 1 (l.map fun r => [.lst 5 (r.map cAct)])), (1, tI th), (2, tI many), (6, .p 0 0), (7, .p 1 0), (8, tI a.length)] ∧
  σ = ⟨[(0, .cells [.v (.slice none 0 0), .v (.slice none 0 0)] 28), (1, .cells [.lst 3 (syms3.map cSym), .s 2 1 0 a.length true] 28), (2, .rows 1 ((a.map (thO many)).map cTh) 69)], 3⟩) (l.take th).length
  ((w_rowsA (k := 3) (ys := syms3.map cSym) rfl (by rfl) (by intro h; cases h) (by decide) ?_).trans ((w_freezeC (j := 4) (i := 0) (k := 3) rfl rfl rfl (by decide) (.s _ _ rfl)).trans ((w_virtC (j := 4) (i := 1) 1 69 rfl rfl).trans ?_))) ⟨[], l.take th, rfl, rfl, rfl, rfl⟩ ?_
 ·exact .cons (.refl _) (.cons (.refl _) (.cons (.nil 1) (.refl _)))
 ·(refine w_ren [(0, 0), (1, 4), (2, 5)] rfl (by rw [hp]; intro j hj; cases hj) rfl ?_ ?_ <;> repeat' (first | exact .nil | exact .f _ rfl | exact .s _ _ _ _ _ _ rfl | exact .p _ _ _ rfl | exact .rows _ _ _ | exact .iter _ _ | exact RenL.nil _ | refine RenL.cons ?_ ?_ | refine .cells _ _ _ ?_ | refine .cons _ _ _ _ rfl ?_ ?_ | refine .cons _ _ _ _ _ rfl rfl ?_ ?_ | refine .rowsE ?_ | refine .sE rfl ?_ | exact .m _ _ rfl | refine .fE rfl ?_ | exact RenO.mB _ | exact RenO.mB [] | fail))
 rintro m env σ ⟨a, b, e, rfl, rfl, rfl⟩
 have hla : min th l.length = a.length + b.length := by rw [← List.length_take, e, lA]
 have hlm : (l.map fun r => [TV.lst 5 (r.map cAct)]).length = l.length := lM ..
 cases b with
 | nil =>
  rw [List.length_nil] at hla
  rw [List.append_nil] at e
  repeat' (first | refine goR rfl ?_ | refine goS rfl ?_ | refine tret1 rfl ?_ | refine tretN rfl ?_ | refine gY rfl rfl ?_ | refine gN rfl rfl ?_ | refine qT rfl rfl ?_ | refine qF rfl rfl ?_ | ((first | refine gS rfl (fun h => ?_) (fun h => ?_) | refine ts_cond rfl (fun h => ?_) (fun h => ?_)) <;> (try simp only [bs0, beq_iff_eq] at h) <;> try (exfalso; omega; done)) | fail)
  all_goals
   show Fz _ _ (.agg [_, .lst 1 (((l.take th).map (thO many)).map cTh)])
   rw [e]
   exact .aggL (.cons (.f _ rfl) (.cons (.s 2 1 _ true _ 69 rfl (by rw [lM, lM])) .nil))
 | cons r b =>
  simp only [List.length_cons] at hla
  have hx : l[a.length]? = some r := by
   have : (l.take th)[a.length]? = some r := by rw [e]; exact ix
   rw [List.getElem?_take] at this
   split at this
   ·exact this
   ·cases this
  obtain ⟨n, hn⟩ : ∃ n, n = min r.length many := ⟨_, rfl⟩
  have hrl : (r.map cAct).length = r.length := lM ..
  have hraw : (rawO n r).length = n := by unfold rawO; rw [lM, List.length_take]; omega
  have hbl : (baseO n r).length = n + 1 := by unfold baseO; rw [lA, hraw]; rfl
  have htho : thO many r = labS (tgtB (rawO n r)) (baseO n r) := by rw [thO, ← hn]
  repeat' (first | refine goR rfl ?_ | refine goS rfl ?_ | refine tret1 rfl ?_ | refine tretN rfl ?_ | refine gY rfl rfl ?_ | refine gN rfl rfl ?_ | refine qT rfl rfl ?_ | refine qF rfl rfl ?_ | refine lT (tl_ixm rfl rfl rfl hx) ?_ | ((first | refine gS rfl (fun h => ?_) (fun h => ?_) | refine ts_cond rfl (fun h => ?_) (fun h => ?_)) <;> (try simp only [bs0, beq_iff_eq] at h) <;> try (exfalso; omega; done)) | fail)
  refine loopS (fun m env σ => ∃ i : Nat, i ≤ n ∧ m = n - i ∧ env = [(0, .lst 1 (l.map fun r => [.lst 5 (r.map cAct)])), (1, tI th), (2, tI many), (6, .p 0 0), (7, .p 1 0), (8, tI a.length), (9, tI n), (10, .p 3 0), (11, tI i)] ∧
   σ = ⟨[(0, .cells [.v (.slice none 0 0), .v (.slice none 0 0)] 28), (1, .cells [.lst 3 (syms3.map cSym), .s 2 1 0 a.length true] 28), (2, .rows 1 ((a.map (thO many)).map cTh) 69),
    (3, .cells [.s 4 13 0 i true] 69), (4, .rows 13 (((r.take i).map fun a => insO a (n + 1)).map cIns) 74)], 5⟩) n ((w_virtC (j := 3) (i := 0) 13 74 rfl rfl).trans ?_) ⟨0, by omega, rfl, rfl, rfl⟩ ?_
  ·(refine w_ren [(0, 0), (1, 1), (2, 2), (3, 3), (4, 4)] rfl (by rw [hp]; intro j hj; cases hj) rfl ?_ ?_ <;> repeat' (first | exact .nil | exact .f _ rfl | exact .s _ _ _ _ _ _ rfl | exact .p _ _ _ rfl | exact .rows _ _ _ | exact .iter _ _ | exact RenL.nil _ | refine RenL.cons ?_ ?_ | refine .cells _ _ _ ?_ | refine .cons _ _ _ _ rfl ?_ ?_ | refine .cons _ _ _ _ _ rfl rfl ?_ ?_ | refine .rowsE ?_ | refine .sE rfl ?_ | exact .m _ _ rfl | refine .fE rfl ?_ | exact RenO.mB _ | exact RenO.mB [] | fail))
   refine congrArg tI ?_
   split <;> omega
  rintro m env σ ⟨i, hi, rfl, rfl, rfl⟩
  by_cases hlt : i < n
  ·have hy : r[i]? = some r[i] := List.getElem?_eq_getElem (by omega)
   have htk : r.take (i + 1) = r.take i ++ [r[i]] := by rw [List.take_add_one, hy]; rfl
   generalize r[i] = act at hy htk
   have cI : ∀ G, Pure prog G 23 [.agg (cAct act), .v (.int .i64 (IntKind.i64.wrap ((n : Int) + 1)))] (.agg (cIns (insO act (n + 1)))) := fun G => by
    rw [w64 (by omega)]; exact insO_spec act n (by omega)
   have hil : (r.take i).length = i := by rw [List.length_take]; omega
   repeat' (first | refine goR rfl ?_ | refine goS rfl ?_ | refine tret1 rfl ?_ | refine tretN rfl ?_ | refine gY rfl rfl ?_ | refine gN rfl rfl ?_ | refine qT rfl rfl ?_ | refine qF rfl rfl ?_ | refine qT rfl (dT (by omega)) ?_ | refine lT (tl_ixm rfl rfl rfl hx) ?_ | refine lT (tl_ixm rfl rfl rfl hy) ?_ | refine cA rfl (by rw [hP]; exact cI _) rfl ?_ | refine tr_append rfl rfl (by rw [lM, lM, hil]) (.inr (.inr ⟨_, _, _, _, rfl, rfl, rfl⟩)) (by simp only [List.length_cons, List.length_nil]; omega) rfl ?_ | fail)
   refine again (m' := n - (i + 1)) (by omega) ?_ ⟨i + 1, by omega, rfl, rfl, rfl⟩
   (refine w_ren [(0, 0), (1, 1), (2, 2), (3, 3), (4, 6)] rfl (by rw [hp]; intro j hj; cases hj) rfl ?_ ?_ <;> repeat' (first | exact .nil | exact .f _ rfl | exact .s _ _ _ _ _ _ rfl | exact .p _ _ _ rfl | exact .rows _ _ _ | exact .iter _ _ | exact RenL.nil _ | refine RenL.cons ?_ ?_ | refine .cells _ _ _ ?_ | refine .cons _ _ _ _ rfl ?_ ?_ | refine .cons _ _ _ _ _ rfl rfl ?_ ?_ | refine .rowsE ?_ | refine .sE rfl ?_ | exact .m _ _ rfl | refine .fE rfl ?_ | exact RenO.mB _ | exact RenO.mB [] | fail))
   ·rw [w64 (by omega)]; rfl
   ·rw [htk, List.map_append, List.map_append]; rfl
  ·have hin : i = n := by omega
   subst hin
   have hil : (r.take i).length = i := by rw [List.length_take]; omega
   repeat' (first | refine goR rfl ?_ | refine goS rfl ?_ | refine tret1 rfl ?_ | refine tretN rfl ?_ | refine gY rfl rfl ?_ | refine gN rfl rfl ?_ | refine qT rfl rfl ?_ | refine qF rfl rfl ?_ | refine qF rfl (dF (by omega)) ?_ | refine tr_append rfl rfl (by rw [lM, lM, hil]) (.inr (.inr ⟨_, _, _, _, rfl, rfl, rfl⟩)) (by simp only [List.length_cons, List.length_nil]; omega) rfl ?_ | fail)
   refine loopS (fun m env σ => ∃ j : Nat, j ≤ i ∧ m = i - j ∧ env = [(0, .lst 1 (l.map fun r => [.lst 5 (r.map cAct)])), (1, tI th), (2, tI many), (6, .p 0 0), (7, .p 1 0), (8, tI a.length), (9, tI i), (10, .p 3 0), (12, tI j)] ∧
    σ = ⟨[(0, .cells [.v (.slice none 0 0), .v (.slice none 0 0)] 28), (1, .cells [.lst 3 (syms3.map cSym), .s 2 1 0 a.length true] 28), (2, .rows 1 ((a.map (thO many)).map cTh) 69),
     (3, .cells [.s 4 13 0 (i + 1) true] 69), (4, .rows 13 ((labS (tgtB ((rawO i r).take j)) (baseO i r)).map cIns) 74)], 5⟩) i ((w_rowsN (k := 6) (r' := cIns hltI) rfl ?_).trans ?_) ⟨0, by omega, rfl, rfl, rfl⟩ ?_
   ·exact .cons (.refl _) (.cons (.refl _) (.cons (.refl _) (.cons (.refl _) (.cons (.refl _) (.cons (.refl _) (.cons (.refl _) (.cons (.refl _) (.cons (.refl _) (.cons (.refl _) (.cons (.refl _) (.cons (.refl _) (.cons (.nil 1) .nil))))))))))))
   ·(refine w_ren [(0, 0), (1, 1), (2, 2), (3, 3), (4, 6)] rfl (by rw [hp]; intro j hj; cases hj) rfl ?_ ?_ <;> repeat' (first | exact .nil | exact .f _ rfl | exact .s _ _ _ _ _ _ rfl | exact .p _ _ _ rfl | exact .rows _ _ _ | exact .iter _ _ | exact RenL.nil _ | refine RenL.cons ?_ ?_ | refine .cells _ _ _ ?_ | refine .cons _ _ _ _ rfl ?_ ?_ | refine .cons _ _ _ _ _ rfl rfl ?_ ?_ | refine .rowsE ?_ | refine .sE rfl ?_ | exact .m _ _ rfl | refine .fE rfl ?_ | exact RenO.mB _ | exact RenO.mB [] | fail))
    rw [List.take_zero, show tgtB [] = fun _ => false from rfl, labS_none, baseO, List.map_append]; rfl
   rintro m env σ ⟨j, hj, rfl, rfl, rfl⟩
   by_cases hjl : j < i
   ·have hz : (rawO i r)[j]? = some (rawO i r)[j] := List.getElem?_eq_getElem (by omega)
    have hzb : (baseO i r)[j]? = some (rawO i r)[j] := by unfold baseO; rw [List.getElem?_append_left (by omega)]; exact hz
    have htg := tgtB_take hz
    generalize (rawO i r)[j] = z at hz hzb htg
    have hget : ((labS (tgtB ((rawO i r).take j)) (baseO i r)).map cIns)[j]? = some (cIns (labI (tgtB ((rawO i r).take j) j) j z)) := by rw [List.getElem?_map, labS_get, hzb]; rfl
    have hto : cutT false 1 11 (cIns (labI (tgtB ((rawO i r).take j) j) j z)) = some (tS z.to) := by
     show some (tS (labI (tgtB ((rawO i r).take j) j) j z).to) = _
     rw [labI_to]
    repeat' (first | refine goR rfl ?_ | refine goS rfl ?_ | refine tret1 rfl ?_ | refine tretN rfl ?_ | refine gY rfl rfl ?_ | refine gN rfl rfl ?_ | refine qT rfl rfl ?_ | refine qF rfl rfl ?_ | refine qT rfl (dT (by omega)) ?_ | refine lT (tl_ixo (m := j) rfl rfl rfl (by omega)) ?_ | refine lT (tl_ldE rfl rfl hget hto) ?_ | fail)
    refine ts_cond rfl (fun h => ?_) (fun h => ?_)
    ·have hze : z.to = bs [] := of_decide_eq_true h
     repeat' (first | refine goR rfl ?_ | refine goS rfl ?_ | refine tret1 rfl ?_ | refine tretN rfl ?_ | refine gY rfl rfl ?_ | refine gN rfl rfl ?_ | refine qT rfl rfl ?_ | refine qF rfl rfl ?_ | fail)
     refine again (m' := i - (j + 1)) (by omega) ?_ ⟨j + 1, by omega, rfl, rfl, rfl⟩
     (refine w_ren [(0, 0), (1, 1), (2, 2), (3, 3), (4, 4)] rfl (by rw [hp]; intro j hj; cases hj) rfl ?_ ?_ <;> repeat' (first | exact .nil | exact .f _ rfl | exact .s _ _ _ _ _ _ rfl | exact .p _ _ _ rfl | exact .rows _ _ _ | exact .iter _ _ | exact RenL.nil _ | refine RenL.cons ?_ ?_ | refine .cells _ _ _ ?_ | refine .cons _ _ _ _ rfl ?_ ?_ | refine .cons _ _ _ _ _ rfl rfl ?_ ?_ | refine .rowsE ?_ | refine .sE rfl ?_ | exact .m _ _ rfl | refine .fE rfl ?_ | exact RenO.mB _ | exact RenO.mB [] | fail))
     ·rw [w64 (by omega)]; rfl
     ·refine congrArg (List.map cIns) (labS_ext fun k _ => ?_)
      rw [htg, hze, dF (labO_ne k), Bool.or_false]
    ·repeat' (first | refine goR rfl ?_ | refine goS rfl ?_ | refine tret1 rfl ?_ | refine tretN rfl ?_ | refine gY rfl rfl ?_ | refine gN rfl rfl ?_ | refine qT rfl rfl ?_ | refine qF rfl rfl ?_ | fail)
     refine loopS (fun m env σ => ∃ k : Nat, k ≤ i + 1 ∧ m = i + 1 - k ∧ env = [(0, .lst 1 (l.map fun r => [.lst 5 (r.map cAct)])), (1, tI th), (2, tI many), (6, .p 0 0), (7, .p 1 0), (8, tI a.length), (9, tI i), (10, .p 3 0), (12, tI j), (13, tI k)] ∧
      σ = ⟨[(0, .cells [.v (.slice none 0 0), .v (.slice none 0 0)] 28), (1, .cells [.lst 3 (syms3.map cSym), .s 2 1 0 a.length true] 28), (2, .rows 1 ((a.map (thO many)).map cTh) 69),
       (3, .cells [.s 4 13 0 (i + 1) true] 69), (4, .rows 13 ((labS (fun q => tgtB ((rawO i r).take j) q || (decide (q < k) && decide (labO q = z.to))) (baseO i r)).map cIns) 74)], 5⟩) (i + 1) ?_ ⟨0, by omega, rfl, rfl, rfl⟩ ?_
     ·(refine w_ren [(0, 0), (1, 1), (2, 2), (3, 3), (4, 4)] rfl (by rw [hp]; intro j hj; cases hj) rfl ?_ ?_ <;> repeat' (first | exact .nil | exact .f _ rfl | exact .s _ _ _ _ _ _ rfl | exact .p _ _ _ rfl | exact .rows _ _ _ | exact .iter _ _ | exact RenL.nil _ | refine RenL.cons ?_ ?_ | refine .cells _ _ _ ?_ | refine .cons _ _ _ _ rfl ?_ ?_ | refine .cons _ _ _ _ _ rfl rfl ?_ ?_ | refine .rowsE ?_ | refine .sE rfl ?_ | exact .m _ _ rfl | refine .fE rfl ?_ | exact RenO.mB _ | exact RenO.mB [] | fail))
      refine congrArg (List.map cIns) (labS_ext fun q _ => ?_)
      rw [dF (by omega), Bool.false_and, Bool.or_false]
     rintro m env σ ⟨k, hk, rfl, rfl, rfl⟩
     obtain ⟨f, hf⟩ : ∃ f : Nat → Bool, f = fun q => tgtB ((rawO i r).take j) q || (decide (q < k) && decide (labO q = z.to)) := ⟨_, rfl⟩
     rw [← hf]
     have hgj : ((labS f (baseO i r)).map cIns)[j]? = some (cIns (labI (f j) j z)) := by rw [List.getElem?_map, labS_get, hzb]; rfl
     have htj : cutT false 1 11 (cIns (labI (f j) j z)) = some (tS z.to) := by
      show some (tS (labI (f j) j z).to) = _
      rw [labI_to]
     by_cases hkl : k ≤ i
     ·have hy : (baseO i r)[k]? = some (baseO i r)[k] := List.getElem?_eq_getElem (by omega)
      have hyl := raw_labs (List.getElem_mem (show k < (baseO i r).length by omega))
      generalize (baseO i r)[k] = y at hy hyl
      have hfk : f k = tgtB ((rawO i r).take j) k := by rw [hf]; simp
      have hgk : ((labS f (baseO i r)).map cIns)[k]? = some (cIns (labI (f k) k y)) := by rw [List.getElem?_map, labS_get, hy]; rfl
      have hlab : ∀ G, Pure prog G 24 [tI k] (tS (labO k)) := fun G => lab_spec k (by omega)
      have hnext : ∀ q, (tgtB ((rawO i r).take j) q || (decide (q < k + 1) && decide (labO q = z.to))) = if q = k then (f k || decide (labO k = z.to)) else f q := by
       intro q
       by_cases hq : q = k
       ·subst hq; rw [if_pos rfl, hfk, dT (by omega)]; rfl
       ·rw [if_neg hq, hf]
        rw [show decide (q < k + 1) = decide (q < k) from decide_eq_decide.2 (by omega)]
      have hsame : (f k || decide (labO k = z.to)) = f k → labS (fun q => tgtB ((rawO i r).take j) q || (decide (q < k + 1) && decide (labO q = z.to))) (baseO i r) = labS f (baseO i r) := by
       intro hh
       refine labS_ext fun q _ => ?_
       rw [hnext]
       split
       ·rename_i hq; rw [hq, hh]
       ·rfl
      by_cases hm : labO k = z.to
      ·cases hfb : f k with
       | true =>
        have hgk2 : ((labS f (baseO i r)).map cIns)[k]? = some (cIns { y with labels := [labO k] }) := by rw [hgk, hfb]; rfl
        repeat' (first | refine goR rfl ?_ | refine goS rfl ?_ | refine tret1 rfl ?_ | refine tretN rfl ?_ | refine gY rfl rfl ?_ | refine gN rfl rfl ?_ | refine qT rfl rfl ?_ | refine qF rfl rfl ?_ | refine lT (tl_ixo (m := j) rfl rfl rfl (by omega)) ?_ | refine lT (tl_ldE rfl rfl hgj htj) ?_ | refine cA rfl (by rw [hP]; exact hlab _) rfl ?_ | refine lT (tl_ixo (m := k) rfl rfl rfl (by omega)) ?_ | refine lT (tl_ldE rfl rfl hgk2 rfl) ?_ | ((first | refine gS rfl (fun h => ?_) (fun h => ?_) | refine ts_cond rfl (fun h => ?_) (fun h => ?_)) <;> (try simp only [bs0, beq_iff_eq] at h) <;> try (exfalso; first | omega | exact h hm | (simp at h; done); done)) | fail)
        refine again (m' := i + 1 - (k + 1)) (by omega) ?_ ⟨k + 1, by omega, rfl, rfl, rfl⟩
        (refine w_ren [(0, 0), (1, 1), (2, 2), (3, 3), (4, 4)] rfl (by rw [hp]; intro j hj; cases hj) rfl ?_ ?_ <;> repeat' (first | exact .nil | exact .f _ rfl | exact .s _ _ _ _ _ _ rfl | exact .p _ _ _ rfl | exact .rows _ _ _ | exact .iter _ _ | exact RenL.nil _ | refine RenL.cons ?_ ?_ | refine .cells _ _ _ ?_ | refine .cons _ _ _ _ rfl ?_ ?_ | refine .cons _ _ _ _ _ rfl rfl ?_ ?_ | refine .rowsE ?_ | refine .sE rfl ?_ | exact .m _ _ rfl | refine .fE rfl ?_ | exact RenO.mB _ | exact RenO.mB [] | fail))
        ·rw [w64 (by omega)]; rfl
        ·rw [hsame (by rw [hfb]; rfl)]
       | false =>
        have hgk2 : ((labS f (baseO i r)).map cIns)[k]? = some (cIns y) := by rw [hgk, hfb]; rfl
        repeat' (first | refine goR rfl ?_ | refine goS rfl ?_ | refine tret1 rfl ?_ | refine tretN rfl ?_ | refine gY rfl rfl ?_ | refine gN rfl rfl ?_ | refine qT rfl rfl ?_ | refine qF rfl rfl ?_ | refine lT (tl_ixo (m := j) rfl rfl rfl (by omega)) ?_ | refine lT (tl_ldE rfl rfl hgj htj) ?_ | refine cA rfl (by rw [hP]; exact hlab _) rfl ?_ | refine lT (tl_ixo (m := k) rfl rfl rfl (by omega)) ?_ | refine lT (tl_ldE rfl rfl hgk2 rfl) ?_ | refine tr_weak (w_freeze (d := 106) (k := 5) rfl rfl (.s _ _ rfl)) (tr_storeE rfl rfl hgk2 rfl rfl rfl rfl rfl rfl ?_) | ((first | refine gS rfl (fun h => ?_) (fun h => ?_) | refine ts_cond rfl (fun h => ?_) (fun h => ?_)) <;> (try simp only [bs0, beq_iff_eq] at h) <;> try (exfalso; first | omega | exact h hm | (apply h; rw [hyl]; rfl); done)) | fail)
        refine again (m' := i + 1 - (k + 1)) (by omega) ?_ ⟨k + 1, by omega, rfl, rfl, rfl⟩
        (refine w_ren [(0, 0), (1, 1), (2, 2), (3, 3), (4, 4)] rfl (by rw [hp]; intro j hj; cases hj) rfl ?_ ?_ <;> repeat' (first | exact .nil | exact .f _ rfl | exact .s _ _ _ _ _ _ rfl | exact .p _ _ _ rfl | exact .rows _ _ _ | exact .iter _ _ | exact RenL.nil _ | refine RenL.cons ?_ ?_ | refine .cells _ _ _ ?_ | refine .cons _ _ _ _ rfl ?_ ?_ | refine .cons _ _ _ _ _ rfl rfl ?_ ?_ | refine .rowsE ?_ | refine .sE rfl ?_ | exact .m _ _ rfl | refine .fE rfl ?_ | exact RenO.mB _ | exact RenO.mB [] | fail))
        ·rw [w64 (by omega)]; rfl
        ·have h1 := labS_set f (fun q => tgtB ((rawO i r).take j) q || (decide (q < k + 1) && decide (labO q = z.to))) (baseO i r) k y hy (fun q => by
          rw [hnext, hfb, dT hm]; rfl)
         rw [← h1, List.map_set]
         rfl
      ·have hgk2 := hgk
       repeat' (first | refine goR rfl ?_ | refine goS rfl ?_ | refine tret1 rfl ?_ | refine tretN rfl ?_ | refine gY rfl rfl ?_ | refine gN rfl rfl ?_ | refine qT rfl rfl ?_ | refine qF rfl rfl ?_ | refine lT (tl_ixo (m := j) rfl rfl rfl (by omega)) ?_ | refine lT (tl_ldE rfl rfl hgj htj) ?_ | refine cA rfl (by rw [hP]; exact hlab _) rfl ?_ | refine lT (tl_ixo (m := k) rfl rfl rfl (by omega)) ?_ | refine lT (tl_ldE rfl rfl hgk2 rfl) ?_ | ((first | refine gS rfl (fun h => ?_) (fun h => ?_) | refine ts_cond rfl (fun h => ?_) (fun h => ?_)) <;> (try simp only [bs0, beq_iff_eq] at h) <;> try (exfalso; first | omega | exact hm h; done)) | fail)
       refine again (m' := i + 1 - (k + 1)) (by omega) ?_ ⟨k + 1, by omega, rfl, rfl, rfl⟩
       (refine w_ren [(0, 0), (1, 1), (2, 2), (3, 3), (4, 4)] rfl (by rw [hp]; intro j hj; cases hj) rfl ?_ ?_ <;> repeat' (first | exact .nil | exact .f _ rfl | exact .s _ _ _ _ _ _ rfl | exact .p _ _ _ rfl | exact .rows _ _ _ | exact .iter _ _ | exact RenL.nil _ | refine RenL.cons ?_ ?_ | refine .cells _ _ _ ?_ | refine .cons _ _ _ _ rfl ?_ ?_ | refine .cons _ _ _ _ _ rfl rfl ?_ ?_ | refine .rowsE ?_ | refine .sE rfl ?_ | exact .m _ _ rfl | refine .fE rfl ?_ | exact RenO.mB _ | exact RenO.mB [] | fail))
       ·rw [w64 (by omega)]; rfl
       ·rw [hsame (by rw [dF hm, Bool.or_false])]
     ·have hke : k = i + 1 := by omega
      repeat' (first | refine goR rfl ?_ | refine goS rfl ?_ | refine tret1 rfl ?_ | refine tretN rfl ?_ | refine gY rfl rfl ?_ | refine gN rfl rfl ?_ | refine qT rfl rfl ?_ | refine qF rfl rfl ?_ | refine qF rfl (dF (by omega)) ?_ | fail)
      refine again (m' := i - (j + 1)) (by omega) ?_ ⟨j + 1, by omega, rfl, rfl, rfl⟩
      (refine w_ren [(0, 0), (1, 1), (2, 2), (3, 3), (4, 4)] rfl (by rw [hp]; intro j hj; cases hj) rfl ?_ ?_ <;> repeat' (first | exact .nil | exact .f _ rfl | exact .s _ _ _ _ _ _ rfl | exact .p _ _ _ rfl | exact .rows _ _ _ | exact .iter _ _ | exact RenL.nil _ | refine RenL.cons ?_ ?_ | refine .cells _ _ _ ?_ | refine .cons _ _ _ _ rfl ?_ ?_ | refine .cons _ _ _ _ _ rfl rfl ?_ ?_ | refine .rowsE ?_ | refine .sE rfl ?_ | exact .m _ _ rfl | refine .fE rfl ?_ | exact RenO.mB _ | exact RenO.mB [] | fail))
      ·rw [w64 (by omega)]; rfl
      ·refine congrArg (List.map cIns) (labS_ext fun q hq => ?_)
       rw [htg, hf]
       simp only [dT (show q < k by omega), Bool.true_and]
   ·have hji : j = i := by omega
    subst hji
    have hfull : (rawO j r).take j = rawO j r := List.take_of_length_le (by omega)
    have hll : ((labS (tgtB ((rawO j r).take j)) (baseO j r)).map cIns).length = j + 1 := by rw [lM, labS_len, hbl]
    refine ts_weak (w_freezeC (j := 3) (i := 0) (k := 4) rfl rfl rfl (by decide) (.s _ _ hll.symm)) ?_
    repeat' (first | refine goR rfl ?_ | refine goS rfl ?_ | refine tret1 rfl ?_ | refine tretN rfl ?_ | refine gY rfl rfl ?_ | refine gN rfl rfl ?_ | refine qT rfl rfl ?_ | refine qF rfl rfl ?_ | refine qF rfl (dF (by omega)) ?_ | refine tr_append rfl rfl (by rw [lM, lM]) (.inr (.inr ⟨_, _, _, _, rfl, rfl, rfl⟩)) (by simp only [List.length_cons, List.length_nil]; omega) rfl ?_ | fail)
    refine again (m' := b.length) (Nat.lt_succ_self _) ?_ ⟨a ++ [r], b, by rw [e]; simp, rfl, rfl, rfl⟩
    (refine w_ren [(0, 0), (1, 1), (2, 6)] rfl (by rw [hp]; intro j hj; cases hj) rfl ?_ ?_ <;> repeat' (first | exact .nil | exact .f _ rfl | exact .s _ _ _ _ _ _ rfl | exact .p _ _ _ rfl | exact .rows _ _ _ | exact .iter _ _ | exact RenL.nil _ | refine RenL.cons ?_ ?_ | refine .cells _ _ _ ?_ | refine .cons _ _ _ _ rfl ?_ ?_ | refine .cons _ _ _ _ _ rfl rfl ?_ ?_ | refine .rowsE ?_ | refine .sE rfl ?_ | exact .m _ _ rfl | refine .fE rfl ?_ | exact RenO.mB _ | exact RenO.mB [] | fail))
    all_goals first | rfl | (rw [w64 (by omega), lA, List.length_singleton]; rfl) | (rw [lA]; rfl) | (rw [List.map_append]; rfl) | rw [lM] | rw [List.append_nil] | skip
    all_goals (rw [List.map_append, List.map_append, hfull, ← htho]; rfl)
end
end Go.Proofs.YtnphhelbianjpaaGreatDoor
namespace Go.Proofs.YtnphhelbianjpaaGreatDoor
set_option maxRecDepth 20000
open Go Go.Proofs.YtnphhelbianjpaaGreatDoor.V Go.Proofs

theorem lab_right : (List.range 30).all (fun k => rightB (labO k)) = true := by kernel_rfl
theorem lab_ok {k : Nat} (h : k < 30) : rightB (labO k) = true := List.all_eq_true.1 lab_right k (List.mem_range.2 h)
theorem lab_inj_all : (List.range 30).all (fun j => (List.range 30).all fun k => decide (j = k) || !decide (labO j = labO k)) = true := by kernel_rfl
theorem lab_inj {j k : Nat} (hj : j < 30) (hk : k < 30) (h : labO j = labO k) : j = k := by
 have h1 := List.all_eq_true.1 lab_inj_all j (List.mem_range.2 hj)
 have h2 := List.all_eq_true.1 h1 k (List.mem_range.2 hk)
 rw [h] at h2
 simpa using h2
theorem syms3_ok : symsC [] syms3 = 0 := by kernel_rfl

theorem regO_ok (k : Int) : okOpd (regO k) = true := by
 have := Int.emod_nonneg k (show (4 : Int) ≠ 0 by decide)
 have := Int.emod_lt_of_pos k (show (0 : Int) < 4 by decide)
 unfold okOpd regO
 exact dT (.inl ⟨rfl, ⟨by dsimp only; omega, by dsimp only; omega⟩, rfl, rfl⟩)
theorem regO_reg (k : Int) : isReg (regO k) = true := by rw [reg_iff, regO_ok]; rfl
theorem regO_mem (k : Int) : isMem (regO k) = false := by rw [mem_iff]; simp [memK, regO]
theorem plnO_ok (k n : Int) : okOpd (plnO k n) = true := by
 unfold plnO
 split
 ·exact regO_ok _
 ·simp [okOpd]
theorem plnO_mem (k n : Int) : isMem (plnO k n) = false := by
 unfold plnO
 split
 ·exact regO_mem _
 ·rw [mem_iff]; simp [memK]
theorem plnO_pln (k n : Int) : isPlain (plnO k n) = true := by rw [isPlain, plnO_ok, plnO_mem]; rfl
theorem memO_ok (k : Int) : okOpd (memO k) = true := by
 have h1 : 0 ≤ k % 60 ∧ k % 60 < 60 := by omega
 unfold memO
 generalize k % 60 = q at h1
 split
 ·unfold okOpd
  exact dT (.inr (.inr (.inr ⟨rfl, by dsimp only; omega, by dsimp only; omega, rfl⟩)))
 ·unfold okOpd
  exact dT (.inr (.inr (.inl ⟨rfl, by dsimp only; omega, by dsimp only; split <;> omega, rfl⟩)))
theorem memO_mem (k : Int) : isMem (memO k) = true := by
 rw [mem_iff, memO_ok]
 unfold memO memK
 split <;> rfl
theorem memO_place (k : Int) : placeC syms3 (memO k) = 0 := by
 have h1 : 0 ≤ k % 60 ∧ k % 60 < 60 := by omega
 have hs : k % 60 / 5 % 3 = 0 ∨ k % 60 / 5 % 3 = 1 ∨ k % 60 / 5 % 3 = 2 := by omega
 unfold memO
 generalize k % 60 = q at h1 hs
 split
 ·unfold placeC memQ
  simp only
  rcases hs with h | h | h <;> rw [h] <;> rfl
 ·unfold placeC memQ
  simp only
  rcases hs with h | h | h
  ·rw [h]; rfl
  ·rw [h, if_pos rfl]
   have : q % 5 % 2 = 0 ∨ q % 5 % 2 = 1 := by omega
   rcases this with h | h <;> rw [h] <;> rfl
  ·rw [h]; rfl
theorem place_no {l : List Sym} {o : Opd} (h : memK o = false) : placeC l o = 0 := by
 unfold placeC
 rw [if_neg (by rw [show memQ o = memK o from rfl, h]; decide)]
theorem regO_place (l : List Sym) (k : Int) : placeC l (regO k) = 0 := place_no (by simp [memK, regO])
theorem plnO_place (l : List Sym) (k n : Int) : placeC l (plnO k n) = 0 := by
 unfold plnO
 split
 ·exact regO_place _ _
 ·exact place_no (by simp [memK])
theorem zOpd_place (l : List Sym) : placeC l zOpd = 0 := place_no rfl

theorem right_of {op cond : Int} {lock : Bool} {a b : Opd} {l : List ByteArray} (hj : op ≠ 10 ∧ op ≠ 11) (hf : fitsB ⟨op, lock, cond, a, b, bs [], l⟩ = true) : insRight ⟨op, lock, cond, a, b, bs [], l⟩ = 0 := by
 unfold insRight
 have hjb : jumpB ⟨op, lock, cond, a, b, bs [], l⟩ = false := by unfold jumpB; simp [hj.1, hj.2]
 rw [hf, hjb]
 simp
theorem right_jmp {op cond : Int} {to : ByteArray} {l : List ByteArray} (hj : (op = 10 ∧ cond = 0) ∨ (op = 11 ∧ 1 ≤ cond ∧ cond ≤ 10)) (hr : rightB to = true) : insRight ⟨op, false, cond, zOpd, zOpd, to, l⟩ = 0 := by
 have hjb : jumpB ⟨op, false, cond, zOpd, zOpd, to, l⟩ = true := by unfold jumpB; rcases hj with h | h <;> simp [h.1]
 have hf : fitsB ⟨op, false, cond, zOpd, zOpd, to, l⟩ = true := by
  unfold fitsB condB formB
  simp only
  rcases hj with ⟨rfl, rfl⟩ | ⟨rfl, h⟩
  ·rfl
  ·simp only [if_true, dT h]; rfl
 unfold insRight
 rw [hf, hjb, if_neg (by simp), if_neg (by rw [hr]; simp)]
theorem step_of {i : Ins} (h : insRight i = 0) (ha : placeC syms3 i.a = 0) (hb : placeC syms3 i.b = 0) : insStep syms3 i = 0 := by
 unfold insStep; rw [if_pos h, if_pos ha, hb]
theorem lab_step (b : Bool) (k : Nat) (x : Ins) : insStep syms3 (labI b k x) = insStep syms3 x := by
 unfold labI; split <;> rfl
theorem lab_jump (b : Bool) (k : Nat) (x : Ins) : jumpB (labI b k x) = jumpB x := by
 unfold labI; split <;> rfl
theorem labN_mem (n : Int) (m : Nat) : ∃ q, q < m + 1 ∧ labN n (m + 1) = labO q := by
 have h1 := Int.emod_nonneg n (show ((m + 1 : Nat) : Int) ≠ 0 by omega)
 have h2 := Int.emod_lt_of_pos n (show (0 : Int) < ((m + 1 : Nat) : Int) by omega)
 exact ⟨(n % ((m + 1 : Nat) : Int)).toNat, by omega, rfl⟩
theorem raw_step (a : Act) (m : Nat) (hm : m < 29) : insStep syms3 (insO a (m + 1)) = 0 := by
 obtain ⟨q, hq, hl⟩ := labN_mem a.a m
 have hr : rightB (labN a.a (m + 1)) = true := by rw [hl]; exact lab_ok (by omega)
 have h5 : 0 ≤ a.c % 5 ∧ a.c % 5 < 5 := by omega
 have h10 : 0 ≤ a.c % 10 ∧ a.c % 10 < 10 := by omega
 have hop : ∀ (lock : Bool) (x y : Opd), twoB ⟨2 + a.c % 5, lock, 0, x, y, bs [], []⟩ = true → (lock = false ∨ isMem x = true) → fitsB ⟨2 + a.c % 5, lock, 0, x, y, bs [], []⟩ = true := by
  intro lock x y h1 h2
  unfold fitsB condB formB
  simp only
  rw [if_neg (by omega), if_neg (by omega), if_pos (by omega), h1]
  rcases h2 with h2 | h2
  ·subst h2; rfl
  ·rw [h2]; simp
 have hmc : ∀ (op : Int) (x y : Opd), op = 1 ∨ op = 7 → twoB ⟨op, false, 0, x, y, bs [], []⟩ = true → fitsB ⟨op, false, 0, x, y, bs [], []⟩ = true := by
  intro op x y h1 h2
  unfold fitsB condB formB
  simp only
  rw [if_neg (by omega), if_pos h1, h2]; rfl
 have hx : ∀ (x y : Opd), isMem x = true → isReg y = true → fitsB ⟨8, false, 0, x, y, bs [], []⟩ = true ∧ fitsB ⟨9, true, 0, x, y, bs [], []⟩ = true := by
  intro x y h1 h2
  constructor
  ·unfold fitsB condB formB; simp [h1, h2]
  ·unfold fitsB condB formB; simp [h1, h2]
 have t1 : ∀ (op : Int) (lock : Bool), twoB ⟨op, lock, 0, regO a.a, plnO a.b a.n, bs [], []⟩ = true := fun op lock => by unfold twoB; simp [regO_reg, plnO_pln]
 have t2 : ∀ (op : Int) (lock : Bool), twoB ⟨op, lock, 0, regO a.a, memO a.b, bs [], []⟩ = true := fun op lock => by unfold twoB; simp [regO_reg, memO_mem]
 have t3 : ∀ (op : Int) (lock : Bool), twoB ⟨op, lock, 0, memO a.a, plnO a.b a.n, bs [], []⟩ = true := fun op lock => by unfold twoB; simp [memO_mem, plnO_pln]
 unfold insO mkI
 by_cases g : a.kind % 22 = 0
 ·rw [if_pos g]; exact step_of (right_of (by decide) (hmc _ _ _ (.inl rfl) (t1 _ _))) (regO_place _ _) (plnO_place _ _ _)
 rw [if_neg g]; clear g
 by_cases g : a.kind % 22 = 1 ∨ a.kind % 22 = 16 ∨ a.kind % 22 = 17
 ·rw [if_pos g]; exact step_of (right_of (by decide) (hmc _ _ _ (.inl rfl) (t2 _ _))) (regO_place _ _) (memO_place _)
 rw [if_neg g]; clear g
 by_cases g : a.kind % 22 = 2 ∨ a.kind % 22 = 18 ∨ a.kind % 22 = 19 ∨ a.kind % 22 = 20
 ·rw [if_pos g]; exact step_of (right_of (by decide) (hmc _ _ _ (.inl rfl) (t3 _ _))) (memO_place _) (plnO_place _ _ _)
 rw [if_neg g]; clear g
 by_cases g : a.kind % 22 = 3
 ·rw [if_pos g]; exact step_of (right_of (by omega) (hop _ _ _ (t1 _ _) (.inl rfl))) (regO_place _ _) (plnO_place _ _ _)
 rw [if_neg g]; clear g
 by_cases g : a.kind % 22 = 4
 ·rw [if_pos g]; exact step_of (right_of (by omega) (hop _ _ _ (t2 _ _) (.inl rfl))) (regO_place _ _) (memO_place _)
 rw [if_neg g]; clear g
 by_cases g : a.kind % 22 = 5 ∨ a.kind % 22 = 21
 ·rw [if_pos g]; exact step_of (right_of (by omega) (hop _ _ _ (t3 _ _) (.inl rfl))) (memO_place _) (plnO_place _ _ _)
 rw [if_neg g]; clear g
 by_cases g : a.kind % 22 = 6
 ·rw [if_pos g]; exact step_of (right_of (by decide) (hmc _ _ _ (.inr rfl) (t2 _ _))) (regO_place _ _) (memO_place _)
 rw [if_neg g]; clear g
 by_cases g : a.kind % 22 = 7
 ·rw [if_pos g]; exact step_of (right_of (by decide) (hmc _ _ _ (.inr rfl) (t3 _ _))) (memO_place _) (plnO_place _ _ _)
 rw [if_neg g]; clear g
 by_cases g : a.kind % 22 = 8
 ·rw [if_pos g]; exact step_of (right_of (by decide) (hx _ _ (memO_mem _) (regO_reg _)).1) (memO_place _) (regO_place _ _)
 rw [if_neg g]; clear g
 by_cases g : a.kind % 22 = 9
 ·rw [if_pos g]; exact step_of (right_of (by decide) (hx _ _ (memO_mem _) (regO_reg _)).2) (memO_place _) (regO_place _ _)
 rw [if_neg g]; clear g
 by_cases g : a.kind % 22 = 10
 ·rw [if_pos g]; exact step_of (right_of (by omega) (hop _ _ _ (t3 _ _) (.inr (memO_mem _)))) (memO_place _) (plnO_place _ _ _)
 rw [if_neg g]; clear g
 by_cases g : a.kind % 22 = 11
 ·rw [if_pos g]; exact step_of (right_jmp (.inl ⟨rfl, rfl⟩) hr) (zOpd_place _) (zOpd_place _)
 rw [if_neg g]; clear g
 by_cases g : a.kind % 22 = 12
 ·rw [if_pos g]; exact step_of (right_jmp (.inr ⟨rfl, by omega, by omega⟩) hr) (zOpd_place _) (zOpd_place _)
 rw [if_neg g]; clear g
 by_cases g : a.kind % 22 = 13
 ·rw [if_pos g]; exact rfl
 rw [if_neg g]; clear g
 by_cases g : a.kind % 22 = 14
 ·rw [if_pos g]; exact step_of (right_of (by decide) (hmc _ _ _ (.inr rfl) (t1 _ _))) (regO_place _ _) (plnO_place _ _ _)
 rw [if_neg g]; clear g
 exact rfl
theorem raw_jump (a : Act) (m : Nat) (h : jumpB (insO a (m + 1)) = true) : ∃ q, q < m + 1 ∧ (insO a (m + 1)).to = labO q := by
 have h5 : 0 ≤ a.c % 5 ∧ a.c % 5 < 5 := by omega
 obtain ⟨q, hq, hl⟩ := labN_mem a.a m
 refine ⟨q, hq, ?_⟩
 have no : ∀ (op : Int) (lock : Bool) (cond : Int) (x y : Opd) (to : ByteArray), op ≠ 10 → op ≠ 11 → jumpB (mkI op lock cond x y to) = true → False := by
  intro op lock cond x y to h1 h2 h3
  unfold jumpB mkI at h3
  simp [h1, h2] at h3
 unfold insO at h ⊢
 by_cases g : a.kind % 22 = 0
 ·rw [if_pos g] at h; exact (no _ _ _ _ _ _ (by decide) (by decide) h).elim
 rw [if_neg g] at h ⊢; clear g
 by_cases g : a.kind % 22 = 1 ∨ a.kind % 22 = 16 ∨ a.kind % 22 = 17
 ·rw [if_pos g] at h; exact (no _ _ _ _ _ _ (by decide) (by decide) h).elim
 rw [if_neg g] at h ⊢; clear g
 by_cases g : a.kind % 22 = 2 ∨ a.kind % 22 = 18 ∨ a.kind % 22 = 19 ∨ a.kind % 22 = 20
 ·rw [if_pos g] at h; exact (no _ _ _ _ _ _ (by decide) (by decide) h).elim
 rw [if_neg g] at h ⊢; clear g
 by_cases g : a.kind % 22 = 3
 ·rw [if_pos g] at h; exact (no _ _ _ _ _ _ (by omega) (by omega) h).elim
 rw [if_neg g] at h ⊢; clear g
 by_cases g : a.kind % 22 = 4
 ·rw [if_pos g] at h; exact (no _ _ _ _ _ _ (by omega) (by omega) h).elim
 rw [if_neg g] at h ⊢; clear g
 by_cases g : a.kind % 22 = 5 ∨ a.kind % 22 = 21
 ·rw [if_pos g] at h; exact (no _ _ _ _ _ _ (by omega) (by omega) h).elim
 rw [if_neg g] at h ⊢; clear g
 by_cases g : a.kind % 22 = 6
 ·rw [if_pos g] at h; exact (no _ _ _ _ _ _ (by decide) (by decide) h).elim
 rw [if_neg g] at h ⊢; clear g
 by_cases g : a.kind % 22 = 7
 ·rw [if_pos g] at h; exact (no _ _ _ _ _ _ (by decide) (by decide) h).elim
 rw [if_neg g] at h ⊢; clear g
 by_cases g : a.kind % 22 = 8
 ·rw [if_pos g] at h; exact (no _ _ _ _ _ _ (by decide) (by decide) h).elim
 rw [if_neg g] at h ⊢; clear g
 by_cases g : a.kind % 22 = 9
 ·rw [if_pos g] at h; exact (no _ _ _ _ _ _ (by decide) (by decide) h).elim
 rw [if_neg g] at h ⊢; clear g
 by_cases g : a.kind % 22 = 10
 ·rw [if_pos g] at h; exact (no _ _ _ _ _ _ (by omega) (by omega) h).elim
 rw [if_neg g] at h ⊢; clear g
 by_cases g : a.kind % 22 = 11
 ·rw [if_pos g]; exact hl
 rw [if_neg g] at h ⊢; clear g
 by_cases g : a.kind % 22 = 12
 ·rw [if_pos g]; exact hl
 rw [if_neg g] at h ⊢; clear g
 by_cases g : a.kind % 22 = 13
 ·rw [if_pos g] at h; exact (no _ _ _ _ _ _ (by decide) (by decide) h).elim
 rw [if_neg g] at h ⊢; clear g
 by_cases g : a.kind % 22 = 14
 ·rw [if_pos g] at h; exact (no _ _ _ _ _ _ (by decide) (by decide) h).elim
 rw [if_neg g] at h ⊢; clear g
 exact (no _ _ _ _ _ _ (by decide) (by decide) h).elim
end Go.Proofs.YtnphhelbianjpaaGreatDoor
namespace Go.Proofs.YtnphhelbianjpaaGreatDoor
set_option maxRecDepth 20000
open Go Go.Proofs.YtnphhelbianjpaaGreatDoor.V Go.Proofs
def labF (f : Nat → Bool) : Nat → List Ins → List Ins
 | _, [] => []
 | k, x :: l => labI (f k) k x :: labF f (k + 1) l
theorem labF_get (f : Nat → Bool) : ∀ (l : List Ins) (k i : Nat), (labF f k l)[i]? = (l[i]?).map (labI (f (k + i)) (k + i))
 | [], k, i => by simp [labF]
 | x :: l, k, 0 => by simp [labF]
 | x :: l, k, i + 1 => by
  rw [labF, List.getElem?_cons_succ, labF_get f l, List.getElem?_cons_succ, show k + 1 + i = k + (i + 1) by omega]
theorem labS_labF (f : Nat → Bool) (l : List Ins) : labS f l = labF f 0 l := by
 refine List.ext_getElem? fun i => ?_
 rw [labS_get, labF_get, Nat.zero_add]
theorem labI_labels {b : Bool} {k : Nat} {x : Ins} (h : x.labels = []) : (labI b k x).labels = if b = true then [labO k] else [] := by
 unfold labI
 split
 ·rfl
 ·exact h
theorem insC_lab (f : Nat → Bool) : ∀ (l : List Ins) (k : Nat) (seen : List ByteArray), (∀ x ∈ l, insStep syms3 x = 0 ∧ x.labels = []) → (∀ s ∈ seen, ∃ j, j < k ∧ s = labO j) → k + l.length ≤ 30 → (insC syms3 seen (labF f k l)).1 = 0
 | [], k, seen, _, _, _ => rfl
 | x :: l, k, seen, h1, h2, h3 => by
  simp only [List.length_cons] at h3
  obtain ⟨hx, hxl⟩ := h1 x (List.mem_cons_self ..)
  have hl := labI_labels (b := f k) (k := k) hxl
  have hstep : insStep syms3 (labI (f k) k x) = 0 := by rw [lab_step]; exact hx
  rw [labF, insC, hl]
  cases hf : f k with
  | false =>
   rw [show (if false = true then [labO k] else []) = ([] : List ByteArray) from rfl]
   simp only [labsC, if_true]
   rw [hf] at hstep
   rw [if_pos hstep]
   exact insC_lab f l (k + 1) seen (fun y hy => h1 y (List.mem_cons_of_mem _ hy)) (fun s hs => let ⟨j, hj, e⟩ := h2 s hs; ⟨j, by omega, e⟩) (by omega)
  | true =>
   have hr : rightB (labO k) = true := lab_ok (by omega)
   have hn : hasB (labO k) seen = false := by
    cases hh : hasB (labO k) seen with
    | false => rfl
    | true =>
     obtain ⟨j, hj, e⟩ := h2 _ (hasB_iff.1 hh)
     have := lab_inj (by omega) (by omega) e
     omega
   rw [if_pos rfl]
   simp only [labsC, hr, hn, if_true, Bool.false_eq_true, if_false]
   rw [hf] at hstep
   rw [if_pos hstep]
   refine insC_lab f l (k + 1) _ (fun y hy => h1 y (List.mem_cons_of_mem _ hy)) (fun s hs => ?_) (by omega)
   rcases List.mem_append.1 hs with hs | hs
   ·obtain ⟨j, hj, e⟩ := h2 s hs; exact ⟨j, by omega, e⟩
   ·exact ⟨k, by omega, List.mem_singleton.1 hs⟩
theorem base_step (n : Nat) (hn : n < 29) (r : List Act) : ∀ x ∈ baseO n r, insStep syms3 x = 0 ∧ x.labels = [] := by
 intro x hx
 refine ⟨?_, raw_labs hx⟩
 rcases List.mem_append.1 hx with h | h
 ·obtain ⟨a, _, rfl⟩ := List.mem_map.1 h
  exact raw_step a n hn
 ·rw [List.mem_singleton.1 h]; rfl
theorem th_check (many : Nat) (hm : many < 29) (r : List Act) : threadC syms3 (thO many r) = 0 ∧ okT (thO many r) ∧ (thO many r).length ≤ 30 := by
 obtain ⟨n, hn⟩ : ∃ n, n = min r.length many := ⟨_, rfl⟩
 have e : thO many r = labS (tgtB (rawO n r)) (baseO n r) := by rw [thO, ← hn]
 have hraw : (rawO n r).length = n := by unfold rawO; rw [lM, List.length_take]; omega
 have hbl : (baseO n r).length = n + 1 := by unfold baseO; rw [lA, hraw]; rfl
 have hlen : (thO many r).length = n + 1 := by rw [e, labS_len, hbl]
 have hins : (insC syms3 [] (thO many r)).1 = 0 := by
  rw [e, labS_labF]
  exact insC_lab _ _ _ _ (base_step n (by omega) r) (by intro s hs; cases hs) (by omega)
 have hlast : lastB (thO many r) = true := by
  have : (thO many r).getLast? = some (labI (tgtB (rawO n r) n) n hltI) := by
   rw [List.getLast?_eq_getElem?, hlen, e, Nat.add_sub_cancel, labS_get]
   unfold baseO
   rw [List.getElem?_append_right (by omega), hraw, Nat.sub_self]; rfl
  rw [lastB, this]
  cases tgtB (rawO n r) n <;> rfl
 have hway : wayB (allLabs (thO many r)) (thO many r) = true := by
  unfold wayB
  rw [List.all_eq_true]
  intro x hx
  cases hj : jumpB x with
  | false => rfl
  | true =>
   rw [Bool.not_true, Bool.false_or, hasB_iff]
   rw [e] at hx
   obtain ⟨k, hk⟩ := List.getElem?_of_mem hx
   rw [labS_get] at hk
   cases hb : (baseO n r)[k]? with
   | none => rw [hb] at hk; cases hk
   | some y =>
    rw [hb] at hk
    cases hk
    rw [lab_jump] at hj
    rw [labI_to]
    have hy : y ∈ rawO n r := by
     rcases List.mem_append.1 (List.mem_of_getElem? hb) with h | h
     ·exact h
     ·rw [List.mem_singleton.1 h] at hj; cases hj
    obtain ⟨a, ha, rfl⟩ := List.mem_map.1 hy
    obtain ⟨q, hq, hto⟩ := raw_jump a n hj
    have hqb : (baseO n r)[q]? = some (baseO n r)[q] := List.getElem?_eq_getElem (by omega)
    have hql := raw_labs (List.getElem_mem (show q < (baseO n r).length by omega))
    generalize (baseO n r)[q] = z at hqb hql
    have htg : tgtB (rawO n r) q = true := by
     unfold tgtB
     rw [List.any_eq_true]
     exact ⟨_, hy, by rw [hto]; simp⟩
    have hm2 : labI true q z ∈ thO many r := by
     rw [e]
     refine List.mem_of_getElem? (i := q) ?_
     rw [labS_get, hqb, htg]; rfl
    rw [hto]
    refine List.mem_flatMap.2 ⟨_, hm2, ?_⟩
    show labO q ∈ [labO q]
    exact List.mem_singleton.2 rfl
 refine ⟨?_, ⟨⟨by omega, ?_⟩, ?_⟩, by omega⟩
 ·unfold threadC
  have hc := countN_le (thO many r)
  rw [if_neg (by omega), if_pos hins, if_pos hlast, insC_seen _ _ _ hins, List.nil_append, if_pos hway]
 ·have : ∀ (l : List Ins) (f : Nat → Bool) (k : Nat), (∀ x ∈ l, x.labels = []) → (allLabs (labF f k l)).length ≤ l.length := by
   intro l f
   induction l with
   | nil => intro k _; simp [labF, allLabs]
   | cons x l ih =>
    intro k h
    have h1 := ih (k + 1) (fun y hy => h y (List.mem_cons_of_mem _ hy))
    have h2 := labI_labels (b := f k) (k := k) (h x (List.mem_cons_self ..))
    rw [labF, allLabs, List.flatMap_cons, lA, h2, List.length_cons, ← allLabs]
    split <;> simp <;> omega
  rw [e, labS_labF]
  have := this (baseO n r) (tgtB (rawO n r)) 0 (fun x hx => raw_labs hx)
  omega
 ·intro x hx
  rw [e] at hx
  obtain ⟨k, hk⟩ := List.getElem?_of_mem hx
  rw [labS_get] at hk
  cases hb : (baseO n r)[k]? with
  | none => rw [hb] at hk; cases hk
  | some y =>
   rw [hb] at hk
   cases hk
   have hyl := raw_labs (List.mem_of_getElem? hb)
   have h2 := labI_labels (b := tgtB (rawO n r) k) (k := k) hyl
   have hsz : ∀ q, (labO q).size = 3 := fun q => rfl
   refine ⟨?_, by rw [h2]; split <;> simp, ?_⟩
   ·rw [labI_to]
    rcases List.mem_append.1 (List.mem_of_getElem? hb) with h | h
    ·obtain ⟨a, ha, rfl⟩ := List.mem_map.1 h
     have ht : ∀ (i : Ins), i = insO a (n + 1) → i.to.size ≤ 3 := by
      intro i hi
      have hto : i.to = bs [] ∨ i.to = labN a.a (n + 1) := by
       rw [hi]
       simp only [insO, mkI, apply_ite Ins.to, ite_self]
       by_cases g1 : a.kind % 22 = 11
       ·simp [g1]
       ·by_cases g2 : a.kind % 22 = 12
        ·simp [g2]
        ·simp [g1, g2]
      rcases hto with h | h
      ·rw [h]; decide
      ·rw [h]; exact Nat.le_refl _
     have := ht _ rfl
     omega
    ·rw [List.mem_singleton.1 h]; decide
   ·intro s hs
    rw [h2] at hs
    split at hs
    ·rw [List.mem_singleton.1 hs, hsz]; decide
    ·cases hs
theorem prog_ok (l : List (List Act)) (th many : Nat) (hth : th ≤ 64) (hm : many < 29) : checkC (progO l th many) = 0 ∧ okP (progO l th many) := by
 have hlen : (progO l th many).threads.length ≤ 64 := by
  show ((l.take th).map (thO many)).length ≤ 64
  rw [lM, List.length_take]; omega
 have hths : ∀ (r : List (List Act)), thsC syms3 (r.map (thO many)) = 0 := by
  intro r
  induction r with
  | nil => rfl
  | cons x r ih => rw [List.map_cons, thsC, if_pos (th_check many hm x).1, ih]
 refine ⟨?_, show 3 ≤ 1000000000 by decide, ?_, by omega, ?_⟩
 ·unfold checkC
  rw [if_neg (by intro h; rcases h with h | h; exact absurd h (show ¬ 64 < 3 by decide); omega)]
  rw [show (progO l th many).syms = syms3 from rfl, if_pos syms3_ok]
  exact hths _
 ·intro s hs
  have : s ∈ syms3 := hs
  simp only [syms3, List.mem_cons, List.not_mem_nil, or_false] at this
  rcases this with rfl | rfl | rfl <;> decide
 ·intro t ht
  obtain ⟨r, _, rfl⟩ := List.mem_map.1 (show t ∈ (l.take th).map (thO many) from ht)
  exact (th_check many hm r).2.1
end Go.Proofs.YtnphhelbianjpaaGreatDoor
namespace Go.Proofs.YtnphhelbianjpaaGreatDoor
set_option maxRecDepth 20000
open Go Go.Proofs.YtnphhelbianjpaaGreatDoor.V Go.Proofs
def mskR (r : Int) : Int := if andW r 1 = 1 then andW r 3 else r
theorem i64_in (n : Int) : inR (i64 n) := by
 unfold inR
 rw [i64_def]
 split <;> omega
section
attribute [local irreducible] TwS TwR thenT inBlockT retT IntKind.wrap mskR
variable {G : World → Prop}
end
end Go.Proofs.YtnphhelbianjpaaGreatDoor
namespace Go.Proofs.YtnphhelbianjpaaGreatDoor
set_option maxRecDepth 20000
open Go Go.Proofs.YtnphhelbianjpaaGreatDoor.V Go.Proofs
theorem okP_small {p : Prg} (h1 : p.syms.length ≤ 100) (h2 : ∀ s ∈ p.syms, s.name.size ≤ 100 ∧ s.init.length ≤ 100) (h3 : p.threads.length ≤ 100) (h4 : ∀ t ∈ p.threads, t.length ≤ 100 ∧ (allLabs t).length ≤ 100 ∧ ∀ i ∈ t, i.to.size ≤ 100 ∧ i.labels.length ≤ 100 ∧ ∀ l ∈ i.labels, l.size ≤ 100) : okP p :=
 ⟨by omega, fun s hs => by have := h2 s hs; omega, by omega, fun t ht => by
  obtain ⟨a, b, c⟩ := h4 t ht
  exact ⟨⟨by omega, by omega⟩, fun i hi => by
   obtain ⟨d, e, f⟩ := c i hi
   exact ⟨by omega, by omega, fun l hl => by have := f l hl; omega⟩⟩⟩
theorem zThr_in : thrR zThr := ⟨by unfold inR; decide, by unfold inR; decide, by unfold inR; decide, by unfold inR; decide, by unfold inR; decide, by unfold inR; decide, by unfold inR; decide, by unfold inR; decide⟩
end Go.Proofs.YtnphhelbianjpaaGreatDoor
namespace Go.Proofs.YtnphhelbianjpaaGreatDoor
set_option maxRecDepth 20000
open Go Go.Proofs.YtnphhelbianjpaaGreatDoor.V Go.Proofs
theorem st_act : (prog.underlying 77).bind stTys = some [3, 3, 3, 3, 2] := by kernel_rfl
theorem un_int : prog.underlying 3 = some (.int .i64) := by kernel_rfl
theorem un_int64 : prog.underlying 2 = some (.int .i64) := by kernel_rfl
theorem un_acts : prog.underlying 66 = some (.slice 77) := by kernel_rfl
theorem un_actss : prog.underlying 22 = some (.slice 66) := by kernel_rfl
theorem ce_act : prog.cellsOf 77 = 5 := by kernel_rfl
theorem ce_acts : prog.cellsOf 66 = 1 := by kernel_rfl
section
end
end Go.Proofs.YtnphhelbianjpaaGreatDoor
namespace Go.Proofs.YtnphhelbianjpaaGreatDoor
set_option maxRecDepth 20000
open Go Go.Proofs.YtnphhelbianjpaaGreatDoor.V Go.Proofs
theorem un_ints : prog.underlying 24 = some (.slice 3) := by kernel_rfl
theorem ce_int : prog.cellsOf 3 = 1 := by kernel_rfl
theorem act_tyN {d : Nat} {cs : List TV} (h : TyL prog (d + 2) 77 cs) : ∃ a : Act, cs = cAct a ∧ inR a.n := by
 obtain ⟨xs, rfl, k⟩ := tl_st st_act h
 cases k with | cons g0 k =>
 cases k with | cons g1 k =>
 cases k with | cons g2 k =>
 cases k with | cons g3 k =>
 cases k with | cons g4 k =>
 cases k
 obtain ⟨a0, rfl, _⟩ := tl_int un_int g0
 obtain ⟨a1, rfl, _⟩ := tl_int un_int g1
 obtain ⟨a2, rfl, _⟩ := tl_int un_int g2
 obtain ⟨a3, rfl, _⟩ := tl_int un_int g3
 obtain ⟨a4, rfl, r1, r2⟩ := tl_int un_int64 g4
 exact ⟨⟨a0, a1, a2, a3, a4⟩, rfl, r1, r2⟩
theorem acts_tyN {d : Nat} {x : TV} (h : TyV prog (d + 4) x 22) : ∃ l : List (List Act), x = .lst 1 (l.map fun r => [.lst 5 (r.map cAct)]) ∧ ∀ r ∈ l, ∀ a ∈ r, inR a.n := by
 obtain ⟨xs, e, k⟩ := tl_sli un_actss ce_acts (tv_sli un_actss h)
 cases e
 obtain ⟨l, rfl, hl⟩ := map_of (c := fun r : List Act => [TV.lst 5 (r.map cAct)]) (Q := fun r => ∀ a ∈ r, inR a.n) fun x hx => by
  obtain ⟨ys, e, n⟩ := tl_sli un_acts ce_act (k x hx)
  obtain ⟨l, rfl, hr⟩ := map_of (c := cAct) (Q := fun a => inR a.n) fun y hy => act_tyN (n y hy)
  exact ⟨l, e, hr⟩
 exact ⟨l, rfl, hl⟩
theorem ints_ty {d : Nat} {x : TV} (h : TyV prog (d + 2) x 24) : ∃ l : List Int, x = rwI l := by
 obtain ⟨xs, e, k⟩ := tl_sli un_ints ce_int (tv_sli un_ints h)
 cases e
 obtain ⟨l, rfl⟩ := map_of' (c := fun s => [tI s]) fun x hx => let ⟨s, e, _⟩ := tl_int un_int (k x hx); ⟨s, e⟩
 exact ⟨l, rfl⟩
end Go.Proofs.YtnphhelbianjpaaGreatDoor
