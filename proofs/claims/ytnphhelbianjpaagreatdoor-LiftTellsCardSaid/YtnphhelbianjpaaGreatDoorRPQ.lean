/-
  Walks of functions of the program, and what the laws need of them.
-/
import Derived.Test.YtnphhelbianjpaaGreatDoorRPO
import Derived.Test.YtnphhelbianjpaaGreatDoorRPC
import Derived.Test.YtnphhelbianjpaaGreatDoorVI
set_option linter.all false
set_option linter.unusedSimpArgs false
set_option linter.unusedVariables false
set_option linter.unnecessarySimpa false
namespace Go.Proofs.YtnphhelbianjpaaGreatDoor
set_option maxRecDepth 20000
open Go Go.Proofs.YtnphhelbianjpaaGreatDoor.V Go.Proofs
def rwB (l : List Bool) : TV := .lst 1 (l.map fun b => [tB b])
def QB (n : Nat) (r : TV) : Prop := ∃ is : List Bool, is.length = n ∧ r = rwB is
theorem findI_le {t : List Ins} {s : ByteArray} {k : Nat} (h : findI t s = some k) : k < t.length := by
 unfold findI at h
 exact (List.findIdx?_eq_some_iff_getElem.1 h).1
def leadsO (x : Ins) : Bool × Bool := if insRight x = 0 then (decide (x.op ≠ 10) && decide (x.op ≠ 14), decide (x.op = 10) || decide (x.op = 11)) else (false, false)
def fenceO (x : Ins) : Bool := (decide (insRight x = 0) && decide (x.op = 12)) || lockedB x
def nextK (n k : Nat) (a b : Bool) (fo : Option Nat) : List Bool :=
 let B1 := if a = true ∧ k + 1 < n then (List.replicate n false).set (k + 1) true else List.replicate n false
 match b, fo with
 | true, some j => B1.set j true
 | _, _ => B1
def nextL (ins : List Ins) (i : Int) : List Bool := if i < 0 then List.replicate ins.length false else match ins[i.toNat]? with
 | some x => nextK ins.length i.toNat (leadsO x).1 (leadsO x).2 (findI ins x.to)
 | none => List.replicate ins.length false
theorem nextK_len (n k : Nat) (a b : Bool) (fo : Option Nat) : (nextK n k a b fo).length = n := by
 unfold nextK
 simp only
 split <;> split <;> simp
theorem nextL_len (ins : List Ins) (i : Int) : (nextL ins i).length = ins.length := by
 unfold nextL
 split
 ·exact List.length_replicate ..
 ·split
  ·exact nextK_len ..
  ·exact List.length_replicate ..
section
attribute [local irreducible] TwS TwR thenT inBlockT retT
set_option maxHeartbeats 20000000 in
theorem leads_spec3 (i : Ins) (hs : i.to.size ≤ 1000000000000) : Pure prog Tabs 149 [.agg (cIns i)] (.tup [tB (leadsO i).1, tB (leadsO i).2]) := by
 have c1 := insRight_spec2 i hs
 have c2 := jumps_spec2 (G := Tabs) i.op
 by_cases h0 : insRight i = 0
 ·have e2 : (leadsO i).2 = (decide (i.op = 10) || decide (i.op = 11)) := by unfold leadsO; rw [if_pos h0]
  rw [h0] at c1
  rw [e2]
  by_cases h1 : i.op = 10
  ·have e1 : (leadsO i).1 = false := by unfold leadsO; rw [if_pos h0]; simp [h1]
   rw [e1]
   refine Pure.at mixedOk F149 rfl fun C hP hG hp => goF ?_; simp only [F149, targEnv, Nat.zero_add, Nat.reduceAdd]
   repeat' (first | refine goR rfl ?_ | refine goS rfl ?_ | refine tret1 rfl ?_ | refine tretN rfl ?_ | refine gY rfl rfl ?_ | refine gN rfl rfl ?_ | refine qT rfl rfl ?_ | refine qF rfl rfl ?_ | refine cA rfl (by rw [hP, hG]; exact c1) rfl ?_ | refine cA rfl (by rw [hP, hG]; exact c2) rfl ?_ | refine tg_f rfl (ndF h1) ?_ | fail)
   exact .fr rfl
  ·have e1 : (leadsO i).1 = !decide (i.op = 14) := by unfold leadsO; rw [if_pos h0]; simp [h1]
   rw [e1]
   refine Pure.at mixedOk F149 rfl fun C hP hG hp => goF ?_; simp only [F149, targEnv, Nat.zero_add, Nat.reduceAdd]
   repeat' (first | refine goR rfl ?_ | refine goS rfl ?_ | refine tret1 rfl ?_ | refine tretN rfl ?_ | refine gY rfl rfl ?_ | refine gN rfl rfl ?_ | refine qT rfl rfl ?_ | refine qF rfl rfl ?_ | refine cA rfl (by rw [hP, hG]; exact c1) rfl ?_ | refine cA rfl (by rw [hP, hG]; exact c2) rfl ?_ | refine tg_t rfl (ndT h1) ?_ | fail)
   exact .fr rfl
 ·have e1 : leadsO i = (false, false) := by unfold leadsO; rw [if_neg h0]
  rw [e1]
  refine Pure.at mixedOk F149 rfl fun C hP hG hp => goF ?_; simp only [F149, targEnv, Nat.zero_add, Nat.reduceAdd]
  repeat' (first | refine goR rfl ?_ | refine goS rfl ?_ | refine tret1 rfl ?_ | refine tretN rfl ?_ | refine gY rfl rfl ?_ | refine gN rfl rfl ?_ | refine qT rfl rfl ?_ | refine qF rfl rfl ?_ | refine cA rfl (by rw [hP, hG]; exact c1) rfl ?_ | refine qT rfl (ndT h0) ?_ | fail)
  exact .fr rfl
set_option maxHeartbeats 20000000 in
theorem fence_spec3 (i : Ins) (hs : i.to.size ≤ 1000000000000) : Pure prog Tabs 150 [.agg (cIns i)] (tB (fenceO i)) := by
 have c1 := insRight_spec2 i hs
 have c2 := locked_spec2 i hs
 by_cases h0 : insRight i = 0
 ·by_cases h1 : i.op = 12
  ·have e1 : fenceO i = true := by unfold fenceO; simp [h0, h1]
   rw [e1]
   refine Pure.at mixedOk F150 rfl fun C hP hG hp => goF ?_; simp only [F150, targEnv, Nat.zero_add, Nat.reduceAdd]
   repeat' (first | refine goR rfl ?_ | refine goS rfl ?_ | refine tret1 rfl ?_ | refine tretN rfl ?_ | refine gY rfl rfl ?_ | refine gN rfl rfl ?_ | refine qT rfl rfl ?_ | refine qF rfl rfl ?_ | refine cA rfl (by rw [hP, hG]; exact c1) rfl ?_ | refine cA rfl (by rw [hP, hG]; exact c2) rfl ?_ | refine tg_t rfl (dT h0) ?_ | refine tg_t rfl (dT h1) ?_ | refine tg_f rfl (dF (by rw [h1]; decide)) ?_ | (refine gS rfl (fun h => ?_) (fun h => ?_) <;> try (exfalso; simp [h1] at h; done)) | fail)
   exact .fr rfl
  ·have e1 : fenceO i = lockedB i := by unfold fenceO; simp [h1]
   rw [e1]
   refine Pure.at mixedOk F150 rfl fun C hP hG hp => goF ?_; simp only [F150, targEnv, Nat.zero_add, Nat.reduceAdd]
   repeat' (first | refine goR rfl ?_ | refine goS rfl ?_ | refine tret1 rfl ?_ | refine tretN rfl ?_ | refine gY rfl rfl ?_ | refine gN rfl rfl ?_ | refine qT rfl rfl ?_ | refine qF rfl rfl ?_ | refine cA rfl (by rw [hP, hG]; exact c1) rfl ?_ | refine cA rfl (by rw [hP, hG]; exact c2) rfl ?_ | refine tg_t rfl (dT h0) ?_ | refine tg_f rfl (dF h1) ?_ | fail)
   exact .fr rfl
 ·have e1 : fenceO i = lockedB i := by unfold fenceO; simp [h0]
  rw [e1]
  refine Pure.at mixedOk F150 rfl fun C hP hG hp => goF ?_; simp only [F150, targEnv, Nat.zero_add, Nat.reduceAdd]
  repeat' (first | refine goR rfl ?_ | refine goS rfl ?_ | refine tret1 rfl ?_ | refine tretN rfl ?_ | refine gY rfl rfl ?_ | refine gN rfl rfl ?_ | refine qT rfl rfl ?_ | refine qF rfl rfl ?_ | refine cA rfl (by rw [hP, hG]; exact c1) rfl ?_ | refine cA rfl (by rw [hP, hG]; exact c2) rfl ?_ | refine tg_f rfl (dF h0) ?_ | fail)
  exact .fr rfl
set_option maxHeartbeats 20000000 in
theorem next_own (ins : List Ins) (hk : okT ins) (hn : ins.length ≤ 100000) (i : Int) : TC prog Tabs 137 [.agg (cTh ins), tI i] ⟨[], 0⟩ [] (fun r σ' => r = .s 0 1 0 ins.length true ∧ σ' = ⟨[(0, .rows 1 ((nextL ins i).map fun b => [tB b]) 4)], 60⟩) := by
 have hil : (ins.map cIns).length = ins.length := lM ..
 have hmk : (List.replicate ins.length [TV.v (.bool false)]) = (List.replicate ins.length false).map fun b => [tB b] := by rw [List.map_replicate]
 have hBl : (List.replicate ins.length false).length = ins.length := List.length_replicate ..
 have h0n : i < 0 ∨ i ≥ (ins.length : Int) → nextL ins i = List.replicate ins.length false := fun h => by
  unfold nextL
  by_cases h1 : i < 0
  ·rw [if_pos h1]
  ·rw [if_neg h1, List.getElem?_eq_none (by omega)]
 by_cases h0 : i < 0 ∨ i ≥ (ins.length : Int)
 ·rw [h0n h0]
  generalize List.replicate ins.length false = B at *
  refine TC.at mixedOk F137 rfl fun C hP hG hp => goF ?_; simp only [F137, targEnv, Nat.zero_add, Nat.reduceAdd]
  repeat' (first | refine goR rfl ?_ | refine goS rfl ?_ | refine tret1 rfl ?_ | refine tretN rfl ?_ | refine gY rfl rfl ?_ | refine gN rfl rfl ?_ | refine qT rfl rfl ?_ | refine qF rfl rfl ?_ | refine tr_makeY rfl rfl rfl rfl (congrArg Nat.cast hil) hmk (by omega) ?_ | ((first | refine gS rfl (fun h => ?_) (fun h => ?_) | refine ts_cond rfl (fun h => ?_) (fun h => ?_)) <;> (try simp only [bs0, beq_iff_eq] at h) <;> try (exfalso; omega; done)) | fail)
  all_goals exact tretX 60 [] rfl hp rfl rfl rfl rfl ⟨rfl, rfl⟩
 ·clear h0n
  obtain ⟨k, rfl⟩ : ∃ k : Nat, i = k := ⟨i.toNat, by omega⟩
  have hkl : k < ins.length := by omega
  have hx : ins[k]? = some ins[k] := List.getElem?_eq_getElem hkl
  have hxo := (hk.2 _ (List.getElem_mem hkl)).1
  generalize ins[k] = x at *
  have c1 := leads_spec3 x (by omega)
  have hw : IntKind.i64.wrap ((k : Int) + 1) = ((k + 1 : Nat) : Int) := by rw [w64 (by omega)]; rfl
  have hs2 : ∀ (B : List Bool) (j : Nat) (b : Bool), (B.set j b).length = B.length := fun B j b => List.length_set ..
  have c2 := findI_spec (G := Tabs) ins x.to (by omega)
  have hN : nextL ins (k : Int) = nextK ins.length k (leadsO x).1 (leadsO x).2 (findI ins x.to) := by
   unfold nextL
   rw [if_neg (by omega), Int.toNat_natCast, hx]
  have hfl := fun {j} => findI_le (t := ins) (s := x.to) (k := j)
  rw [hN]
  clear hN
  generalize findI ins x.to = fo at *
  generalize leadsO x = lo at *
  obtain ⟨a, b⟩ := lo
  simp only at c1 ⊢
  have hK : ∀ a b fo, nextK ins.length k a b fo = (match b, fo with
   | true, some j => (if a = true ∧ k + 1 < ins.length then (List.replicate ins.length false).set (k + 1) true else List.replicate ins.length false).set j true
   | _, _ => (if a = true ∧ k + 1 < ins.length then (List.replicate ins.length false).set (k + 1) true else List.replicate ins.length false)) := fun a b fo => by unfold nextK; cases b <;> cases fo <;> rfl
  rw [hK]
  clear hK
  generalize List.replicate ins.length false = B at *
  by_cases hk1 : k + 1 < ins.length
  ·cases a
   ·rw [if_neg (fun h => Bool.false_ne_true h.1)]
    cases b with
    | false =>
     refine TC.at mixedOk F137 rfl fun C hP hG hp => goF ?_; simp only [F137, targEnv, Nat.zero_add, Nat.reduceAdd]
     repeat' (first | refine goR rfl ?_ | refine goS rfl ?_ | refine tret1 rfl ?_ | refine tretN rfl ?_ | refine gY rfl rfl ?_ | refine gN rfl rfl ?_ | refine qT rfl rfl ?_ | refine qF rfl rfl ?_ | refine tr_makeY rfl rfl rfl rfl (congrArg Nat.cast hil) hmk (by omega) ?_ | refine qT rfl (dT (by omega)) ?_ | refine qF rfl (dF (by omega)) ?_ | refine lT (tl_ixm rfl rfl rfl hx) ?_ | refine cA rfl (by rw [hP, hG]; exact c1) rfl ?_ | refine cA rfl (by rw [hP, hG]; exact c2) rfl ?_ | refine lT (tl_ixo (m := k + 1) rfl rfl hw (by omega)) ?_ | refine tr_storeB rfl rfl rfl (by omega) rfl ?_ | fail)
     exact tretX 60 [] rfl hp rfl rfl rfl rfl ⟨rfl, rfl⟩
    | true =>
     cases fo with
     | none =>
      have c2 : Pure prog Tabs 90 [.agg (cTh ins), tS x.to] (tI (-1)) := c2
      refine TC.at mixedOk F137 rfl fun C hP hG hp => goF ?_; simp only [F137, targEnv, Nat.zero_add, Nat.reduceAdd]
      repeat' (first | refine goR rfl ?_ | refine goS rfl ?_ | refine tret1 rfl ?_ | refine tretN rfl ?_ | refine gY rfl rfl ?_ | refine gN rfl rfl ?_ | refine qT rfl rfl ?_ | refine qF rfl rfl ?_ | refine tr_makeY rfl rfl rfl rfl (congrArg Nat.cast hil) hmk (by omega) ?_ | refine qT rfl (dT (by omega)) ?_ | refine qF rfl (dF (by omega)) ?_ | refine lT (tl_ixm rfl rfl rfl hx) ?_ | refine cA rfl (by rw [hP, hG]; exact c1) rfl ?_ | refine cA rfl (by rw [hP, hG]; exact c2) rfl ?_ | refine lT (tl_ixo (m := k + 1) rfl rfl hw (by omega)) ?_ | refine tr_storeB rfl rfl rfl (by omega) rfl ?_ | fail)
      exact tretX 60 [] rfl hp rfl rfl rfl rfl ⟨rfl, rfl⟩
     | some j =>
      have c2 : Pure prog Tabs 90 [.agg (cTh ins), tS x.to] (tI (j : Nat)) := c2
      have hjl := hfl rfl
      refine TC.at mixedOk F137 rfl fun C hP hG hp => goF ?_; simp only [F137, targEnv, Nat.zero_add, Nat.reduceAdd]
      repeat' (first | refine goR rfl ?_ | refine goS rfl ?_ | refine tret1 rfl ?_ | refine tretN rfl ?_ | refine gY rfl rfl ?_ | refine gN rfl rfl ?_ | refine qT rfl rfl ?_ | refine qF rfl rfl ?_ | refine tr_makeY rfl rfl rfl rfl (congrArg Nat.cast hil) hmk (by omega) ?_ | refine qT rfl (dT (by omega)) ?_ | refine qF rfl (dF (by omega)) ?_ | refine lT (tl_ixm rfl rfl rfl hx) ?_ | refine cA rfl (by rw [hP, hG]; exact c1) rfl ?_ | refine cA rfl (by rw [hP, hG]; exact c2) rfl ?_ | refine lT (tl_ixo (m := k + 1) rfl rfl hw (by omega)) ?_ | refine lT (tl_ixo (m := j) rfl rfl rfl hjl) ?_ | refine tr_storeB rfl rfl rfl (by first | omega | (rw [hs2]; omega)) rfl ?_ | fail)
      exact tretX 60 [] rfl hp rfl rfl rfl rfl ⟨rfl, rfl⟩
   ·rw [if_pos ⟨rfl, hk1⟩]
    cases b with
    | false =>
     refine TC.at mixedOk F137 rfl fun C hP hG hp => goF ?_; simp only [F137, targEnv, Nat.zero_add, Nat.reduceAdd]
     repeat' (first | refine goR rfl ?_ | refine goS rfl ?_ | refine tret1 rfl ?_ | refine tretN rfl ?_ | refine gY rfl rfl ?_ | refine gN rfl rfl ?_ | refine qT rfl rfl ?_ | refine qF rfl rfl ?_ | refine tr_makeY rfl rfl rfl rfl (congrArg Nat.cast hil) hmk (by omega) ?_ | refine qT rfl (dT (by omega)) ?_ | refine qF rfl (dF (by omega)) ?_ | refine lT (tl_ixm rfl rfl rfl hx) ?_ | refine cA rfl (by rw [hP, hG]; exact c1) rfl ?_ | refine cA rfl (by rw [hP, hG]; exact c2) rfl ?_ | refine lT (tl_ixo (m := k + 1) rfl rfl hw (by omega)) ?_ | refine tr_storeB rfl rfl rfl (by omega) rfl ?_ | fail)
     exact tretX 60 [] rfl hp rfl rfl rfl rfl ⟨rfl, rfl⟩
    | true =>
     cases fo with
     | none =>
      have c2 : Pure prog Tabs 90 [.agg (cTh ins), tS x.to] (tI (-1)) := c2
      refine TC.at mixedOk F137 rfl fun C hP hG hp => goF ?_; simp only [F137, targEnv, Nat.zero_add, Nat.reduceAdd]
      repeat' (first | refine goR rfl ?_ | refine goS rfl ?_ | refine tret1 rfl ?_ | refine tretN rfl ?_ | refine gY rfl rfl ?_ | refine gN rfl rfl ?_ | refine qT rfl rfl ?_ | refine qF rfl rfl ?_ | refine tr_makeY rfl rfl rfl rfl (congrArg Nat.cast hil) hmk (by omega) ?_ | refine qT rfl (dT (by omega)) ?_ | refine qF rfl (dF (by omega)) ?_ | refine lT (tl_ixm rfl rfl rfl hx) ?_ | refine cA rfl (by rw [hP, hG]; exact c1) rfl ?_ | refine cA rfl (by rw [hP, hG]; exact c2) rfl ?_ | refine lT (tl_ixo (m := k + 1) rfl rfl hw (by omega)) ?_ | refine tr_storeB rfl rfl rfl (by omega) rfl ?_ | fail)
      exact tretX 60 [] rfl hp rfl rfl rfl rfl ⟨rfl, rfl⟩
     | some j =>
      have c2 : Pure prog Tabs 90 [.agg (cTh ins), tS x.to] (tI (j : Nat)) := c2
      have hjl := hfl rfl
      refine TC.at mixedOk F137 rfl fun C hP hG hp => goF ?_; simp only [F137, targEnv, Nat.zero_add, Nat.reduceAdd]
      repeat' (first | refine goR rfl ?_ | refine goS rfl ?_ | refine tret1 rfl ?_ | refine tretN rfl ?_ | refine gY rfl rfl ?_ | refine gN rfl rfl ?_ | refine qT rfl rfl ?_ | refine qF rfl rfl ?_ | refine tr_makeY rfl rfl rfl rfl (congrArg Nat.cast hil) hmk (by omega) ?_ | refine qT rfl (dT (by omega)) ?_ | refine qF rfl (dF (by omega)) ?_ | refine lT (tl_ixm rfl rfl rfl hx) ?_ | refine cA rfl (by rw [hP, hG]; exact c1) rfl ?_ | refine cA rfl (by rw [hP, hG]; exact c2) rfl ?_ | refine lT (tl_ixo (m := k + 1) rfl rfl hw (by omega)) ?_ | refine lT (tl_ixo (m := j) rfl rfl rfl hjl) ?_ | refine tr_storeB rfl rfl rfl (by first | omega | (rw [hs2]; omega)) rfl ?_ | fail)
      exact tretX 60 [] rfl hp rfl rfl rfl rfl ⟨rfl, rfl⟩
  ·rw [if_neg (fun h => hk1 h.2)]
   cases a
   ·cases b with
    | false =>
     refine TC.at mixedOk F137 rfl fun C hP hG hp => goF ?_; simp only [F137, targEnv, Nat.zero_add, Nat.reduceAdd]
     repeat' (first | refine goR rfl ?_ | refine goS rfl ?_ | refine tret1 rfl ?_ | refine tretN rfl ?_ | refine gY rfl rfl ?_ | refine gN rfl rfl ?_ | refine qT rfl rfl ?_ | refine qF rfl rfl ?_ | refine tr_makeY rfl rfl rfl rfl (congrArg Nat.cast hil) hmk (by omega) ?_ | refine qT rfl (dT (by omega)) ?_ | refine qF rfl (dF (by omega)) ?_ | refine lT (tl_ixm rfl rfl rfl hx) ?_ | refine cA rfl (by rw [hP, hG]; exact c1) rfl ?_ | refine cA rfl (by rw [hP, hG]; exact c2) rfl ?_ | refine lT (tl_ixo (m := k + 1) rfl rfl hw (by omega)) ?_ | refine tr_storeB rfl rfl rfl (by omega) rfl ?_ | fail)
     exact tretX 60 [] rfl hp rfl rfl rfl rfl ⟨rfl, rfl⟩
    | true =>
     cases fo with
     | none =>
      have c2 : Pure prog Tabs 90 [.agg (cTh ins), tS x.to] (tI (-1)) := c2
      refine TC.at mixedOk F137 rfl fun C hP hG hp => goF ?_; simp only [F137, targEnv, Nat.zero_add, Nat.reduceAdd]
      repeat' (first | refine goR rfl ?_ | refine goS rfl ?_ | refine tret1 rfl ?_ | refine tretN rfl ?_ | refine gY rfl rfl ?_ | refine gN rfl rfl ?_ | refine qT rfl rfl ?_ | refine qF rfl rfl ?_ | refine tr_makeY rfl rfl rfl rfl (congrArg Nat.cast hil) hmk (by omega) ?_ | refine qT rfl (dT (by omega)) ?_ | refine qF rfl (dF (by omega)) ?_ | refine lT (tl_ixm rfl rfl rfl hx) ?_ | refine cA rfl (by rw [hP, hG]; exact c1) rfl ?_ | refine cA rfl (by rw [hP, hG]; exact c2) rfl ?_ | refine lT (tl_ixo (m := k + 1) rfl rfl hw (by omega)) ?_ | refine tr_storeB rfl rfl rfl (by omega) rfl ?_ | fail)
      exact tretX 60 [] rfl hp rfl rfl rfl rfl ⟨rfl, rfl⟩
     | some j =>
      have c2 : Pure prog Tabs 90 [.agg (cTh ins), tS x.to] (tI (j : Nat)) := c2
      have hjl := hfl rfl
      refine TC.at mixedOk F137 rfl fun C hP hG hp => goF ?_; simp only [F137, targEnv, Nat.zero_add, Nat.reduceAdd]
      repeat' (first | refine goR rfl ?_ | refine goS rfl ?_ | refine tret1 rfl ?_ | refine tretN rfl ?_ | refine gY rfl rfl ?_ | refine gN rfl rfl ?_ | refine qT rfl rfl ?_ | refine qF rfl rfl ?_ | refine tr_makeY rfl rfl rfl rfl (congrArg Nat.cast hil) hmk (by omega) ?_ | refine qT rfl (dT (by omega)) ?_ | refine qF rfl (dF (by omega)) ?_ | refine lT (tl_ixm rfl rfl rfl hx) ?_ | refine cA rfl (by rw [hP, hG]; exact c1) rfl ?_ | refine cA rfl (by rw [hP, hG]; exact c2) rfl ?_ | refine lT (tl_ixo (m := k + 1) rfl rfl hw (by omega)) ?_ | refine lT (tl_ixo (m := j) rfl rfl rfl hjl) ?_ | refine tr_storeB rfl rfl rfl (by first | omega | (rw [hs2]; omega)) rfl ?_ | fail)
      exact tretX 60 [] rfl hp rfl rfl rfl rfl ⟨rfl, rfl⟩
   ·cases b with
    | false =>
     refine TC.at mixedOk F137 rfl fun C hP hG hp => goF ?_; simp only [F137, targEnv, Nat.zero_add, Nat.reduceAdd]
     repeat' (first | refine goR rfl ?_ | refine goS rfl ?_ | refine tret1 rfl ?_ | refine tretN rfl ?_ | refine gY rfl rfl ?_ | refine gN rfl rfl ?_ | refine qT rfl rfl ?_ | refine qF rfl rfl ?_ | refine tr_makeY rfl rfl rfl rfl (congrArg Nat.cast hil) hmk (by omega) ?_ | refine qT rfl (dT (by omega)) ?_ | refine qF rfl (dF (by omega)) ?_ | refine lT (tl_ixm rfl rfl rfl hx) ?_ | refine cA rfl (by rw [hP, hG]; exact c1) rfl ?_ | refine cA rfl (by rw [hP, hG]; exact c2) rfl ?_ | refine lT (tl_ixo (m := k + 1) rfl rfl hw (by omega)) ?_ | refine tr_storeB rfl rfl rfl (by omega) rfl ?_ | fail)
     exact tretX 60 [] rfl hp rfl rfl rfl rfl ⟨rfl, rfl⟩
    | true =>
     cases fo with
     | none =>
      have c2 : Pure prog Tabs 90 [.agg (cTh ins), tS x.to] (tI (-1)) := c2
      refine TC.at mixedOk F137 rfl fun C hP hG hp => goF ?_; simp only [F137, targEnv, Nat.zero_add, Nat.reduceAdd]
      repeat' (first | refine goR rfl ?_ | refine goS rfl ?_ | refine tret1 rfl ?_ | refine tretN rfl ?_ | refine gY rfl rfl ?_ | refine gN rfl rfl ?_ | refine qT rfl rfl ?_ | refine qF rfl rfl ?_ | refine tr_makeY rfl rfl rfl rfl (congrArg Nat.cast hil) hmk (by omega) ?_ | refine qT rfl (dT (by omega)) ?_ | refine qF rfl (dF (by omega)) ?_ | refine lT (tl_ixm rfl rfl rfl hx) ?_ | refine cA rfl (by rw [hP, hG]; exact c1) rfl ?_ | refine cA rfl (by rw [hP, hG]; exact c2) rfl ?_ | refine lT (tl_ixo (m := k + 1) rfl rfl hw (by omega)) ?_ | refine tr_storeB rfl rfl rfl (by omega) rfl ?_ | fail)
      exact tretX 60 [] rfl hp rfl rfl rfl rfl ⟨rfl, rfl⟩
     | some j =>
      have c2 : Pure prog Tabs 90 [.agg (cTh ins), tS x.to] (tI (j : Nat)) := c2
      have hjl := hfl rfl
      refine TC.at mixedOk F137 rfl fun C hP hG hp => goF ?_; simp only [F137, targEnv, Nat.zero_add, Nat.reduceAdd]
      repeat' (first | refine goR rfl ?_ | refine goS rfl ?_ | refine tret1 rfl ?_ | refine tretN rfl ?_ | refine gY rfl rfl ?_ | refine gN rfl rfl ?_ | refine qT rfl rfl ?_ | refine qF rfl rfl ?_ | refine tr_makeY rfl rfl rfl rfl (congrArg Nat.cast hil) hmk (by omega) ?_ | refine qT rfl (dT (by omega)) ?_ | refine qF rfl (dF (by omega)) ?_ | refine lT (tl_ixm rfl rfl rfl hx) ?_ | refine cA rfl (by rw [hP, hG]; exact c1) rfl ?_ | refine cA rfl (by rw [hP, hG]; exact c2) rfl ?_ | refine lT (tl_ixo (m := k + 1) rfl rfl hw (by omega)) ?_ | refine lT (tl_ixo (m := j) rfl rfl rfl hjl) ?_ | refine tr_storeB rfl rfl rfl (by first | omega | (rw [hs2]; omega)) rfl ?_ | fail)
      exact tretX 60 [] rfl hp rfl rfl rfl rfl ⟨rfl, rfl⟩
def cF (is : List Bool) : Nat := is.count false
theorem cF_set {is : List Bool} {j : Nat} (hj : j < is.length) (h : is.getD j false = false) : cF (is.set j true) + 1 = cF is := by
 unfold cF
 have h2 : is[j] = false := by rw [List.getD_eq_getElem?_getD, List.getElem?_eq_getElem hj] at h; exact h
 rw [List.count_set hj]
 have h3 : 0 < is.count false := List.count_pos_iff.2 (h2 ▸ List.getElem_mem hj)
 simp [h2]
 omega
end
end Go.Proofs.YtnphhelbianjpaaGreatDoor
namespace Go.Proofs.YtnphhelbianjpaaGreatDoor
set_option maxRecDepth 20000
open Go Go.Proofs.YtnphhelbianjpaaGreatDoor.V Go.Proofs
theorem getD_set (is : List Bool) (i j : Nat) (b : Bool) (hi : i < is.length) : (is.set i b).getD j false = if j = i then b else is.getD j false := by
 rw [List.getD_eq_getElem?_getD, List.getD_eq_getElem?_getD]
 by_cases e : j = i
 ·subst e
  rw [List.getElem?_set_self hi, if_pos rfl]; rfl
 ·rw [List.getElem?_set_ne (fun h => e h.symm), if_neg e]
inductive Rch (ins : List Ins) (pts : List Int) (s : Int) : Nat → Prop
 | base (j : Nat) : (nextL ins s).getD j false = true → (j : Int) ∉ pts → Rch ins pts s j
 | step (k j : Nat) (x : Ins) : Rch ins pts s k → ins[k]? = some x → fenceO x = false → (nextL ins (k : Int)).getD j false = true → (j : Int) ∉ pts → Rch ins pts s j
def clA (ins : List Ins) (pts : List Int) (is : List Bool) (k : Nat) : Prop := ∀ x, is.getD k false = true → ins[k]? = some x → fenceO x = false → ∀ j : Nat, (nextL ins (k : Int)).getD j false = true → (j : Int) ∉ pts → is.getD j false = true
def frP (ins : List Ins) (pts : List Int) (s l : Int) : Prop := 0 ≤ l ∧ l < (ins.length : Int) ∧ Rch ins pts s l.toNat
theorem Rch.not {ins : List Ins} {pts : List Int} {s : Int} {j : Nat} (h : Rch ins pts s j) : (j : Int) ∉ pts := by
 cases h <;> assumption
theorem Rch.congr {ins : List Ins} {p q : List Int} (h : ∀ a, a ∈ p ↔ a ∈ q) {s : Int} {j : Nat} (hr : Rch ins p s j) : Rch ins q s j := by
 induction hr with
 | base j h1 h2 => exact .base j h1 (fun h3 => h2 ((h _).2 h3))
 | step k j x _ h2 h3 h4 h5 ih => exact .step k j x ih h2 h3 h4 (fun h6 => h5 ((h _).2 h6))
section
attribute [local irreducible] TwS TwR thenT inBlockT retT
set_option maxHeartbeats 20000000 in
theorem from_x (ins : List Ins) (hk : okT ins) (hn : ins.length ≤ 100000) (i : Int) : PureX prog Tabs 123 [.agg (cTh ins), tI i] (QB ins.length) := by
 have cN := next_own ins hk hn
 obtain ⟨n, hne⟩ : ∃ n, n = ins.length := ⟨_, rfl⟩
 rw [← hne] at cN hn
 rw [← hne]
 refine PureX.at mixedOk F123 rfl fun C hP hG hp => goF ?_; simp only [F123, targEnv, Nat.zero_add, Nat.reduceAdd]
 repeat' (first | refine goR rfl ?_ | refine goS rfl ?_ | refine tret1 rfl ?_ | refine tretN rfl ?_ | refine gY rfl rfl ?_ | refine gN rfl rfl ?_ | refine qT rfl rfl ?_ | refine qF rfl rfl ?_ | refine tr_mcallX hP hG (cN i) rfl rfl rfl rfl rfl rfl rfl rfl rfl rfl rfl rfl ?_ | fail)
 have his := nextL_len ins i
 rw [← hne] at his
 generalize nextL ins i = is at his ⊢
 refine loopS (fun m env σ => ∃ (is : List Bool) (mv : Bool), is.length = n ∧ m = 2 * cF is + (if mv = true then 1 else 0) ∧ env = [(2, .p 0 0), (5, .s 1 1 0 n true), (6, tB mv)] ∧ σ = ⟨[(0, .cells (cTh ins) 69), (1, .rows 1 (is.map fun b => [tB b]) 4)], 60⟩) (2 * cF is + 1) (w_canon 60 [] [2, 5, 6] hp rfl rfl rfl rfl) ⟨is, true, his, rfl, rfl, rfl⟩ ?_
 clear his
 rintro m1 env σ ⟨is, mv, his, rfl, rfl, rfl⟩
 cases mv with
 | false =>
  repeat' (first | refine goR rfl ?_ | refine goS rfl ?_ | refine tret1 rfl ?_ | refine tretN rfl ?_ | refine gY rfl rfl ?_ | refine gN rfl rfl ?_ | refine qT rfl rfl ?_ | refine qF rfl rfl ?_ | fail)
  exact ⟨rwB is, ⟨is, his, rfl⟩, .s _ 1 _ true _ 4 rfl (by rw [lM, his])⟩
 | true =>
  repeat' (first | refine goR rfl ?_ | refine goS rfl ?_ | refine tret1 rfl ?_ | refine tretN rfl ?_ | refine gY rfl rfl ?_ | refine gN rfl rfl ?_ | refine qT rfl rfl ?_ | refine qF rfl rfl ?_ | fail)
  refine loopS (fun m env σ => ∃ (is' : List Bool) (mv : Bool) (k : Nat), is'.length = n ∧ k ≤ n ∧ m = n - k ∧ cF is' + (if mv = true then 1 else 0) ≤ cF is ∧ env = [(2, .p 0 0), (5, .s 1 1 0 n true), (6, tB mv), (7, tI k)] ∧ σ = ⟨[(0, .cells (cTh ins) 69), (1, .rows 1 (is'.map fun b => [tB b]) 4)], 60⟩) n (w_canon 60 [] [2, 5, 6, 7] hp rfl rfl rfl rfl) ⟨is, false, 0, his, Nat.zero_le _, rfl, Nat.le_refl _, rfl, rfl⟩ ?_
  rintro m2 env σ ⟨is', mv, k, h1, h2, rfl, h3, rfl, rfl⟩
  have hw1 : IntKind.i64.wrap ((k : Int) + 1) = ((k + 1 : Nat) : Int) := by rw [w64 (by omega)]; rfl
  by_cases hkn : k < n
  ·cases hb : is'.getD k false with
   | false =>
    repeat' (first | refine goR rfl ?_ | refine goS rfl ?_ | refine tret1 rfl ?_ | refine tretN rfl ?_ | refine gY rfl rfl ?_ | refine gN rfl rfl ?_ | refine qT rfl rfl ?_ | refine qF rfl rfl ?_ | refine qT rfl (dT (by omega)) ?_ | refine lT (tl_ixo (m := k) rfl rfl rfl (by omega)) ?_ | (refine lT (tl_ldB rfl rfl (by omega)) ?_; rw [hb]) | fail)
    exact again (m' := n - (k + 1)) (by omega) (w_canon 60 [] [2, 5, 6, 7] hp rfl rfl rfl rfl) ⟨is', mv, k + 1, h1, hkn, rfl, h3, by rw [hw1], rfl⟩
   | true =>
    repeat' (first | refine goR rfl ?_ | refine goS rfl ?_ | refine tret1 rfl ?_ | refine tretN rfl ?_ | refine gY rfl rfl ?_ | refine gN rfl rfl ?_ | refine qT rfl rfl ?_ | refine qF rfl rfl ?_ | refine qT rfl (dT (by omega)) ?_ | refine lT (tl_ixo (m := k) rfl rfl rfl (by omega)) ?_ | (refine lT (tl_ldB rfl rfl (by omega)) ?_; rw [hb]) | refine tr_mcallX hP hG (cN (k : Int)) rfl rfl rfl rfl rfl rfl rfl rfl rfl rfl rfl rfl ?_ | fail)
    have hmo := nextL_len ins (k : Int)
    rw [← hne] at hmo
    generalize nextL ins (k : Int) = mo at hmo ⊢
    refine loopS (fun m env σ => ∃ (is' : List Bool) (mv : Bool) (j : Nat), is'.length = n ∧ j ≤ n ∧ m = n - j ∧ cF is' + (if mv = true then 1 else 0) ≤ cF is ∧ env = [(2, .p 0 0), (5, .s 1 1 0 n true), (6, tB mv), (7, tI k), (8, .s 2 1 0 n true), (9, tI j)] ∧ σ = ⟨[(0, .cells (cTh ins) 69), (1, .rows 1 (is'.map fun b => [tB b]) 4), (2, .rows 1 (mo.map fun b => [tB b]) 4)], 60⟩) n (w_canon 60 [] [2, 5, 6, 7, 8, 9] hp rfl rfl rfl rfl) ⟨is', mv, 0, h1, Nat.zero_le _, rfl, h3, rfl, rfl⟩ ?_
    clear h1 h3 hb
    rintro m3 env σ ⟨is', mv, j, h1, h2, rfl, h3, rfl, rfl⟩
    have hw2 : IntKind.i64.wrap ((j : Int) + 1) = ((j + 1 : Nat) : Int) := by rw [w64 (by omega)]; rfl
    by_cases hjn : j < n
    ·cases ha : mo.getD j false with
     | false =>
      repeat' (first | refine goR rfl ?_ | refine goS rfl ?_ | refine tret1 rfl ?_ | refine tretN rfl ?_ | refine gY rfl rfl ?_ | refine gN rfl rfl ?_ | refine qT rfl rfl ?_ | refine qF rfl rfl ?_ | refine qT rfl (dT (by omega)) ?_ | refine lT (tl_ixo (m := j) rfl rfl rfl (by omega)) ?_ | (refine lT (tl_ldB rfl rfl (by omega)) ?_; rw [ha]) | fail)
      exact again (m' := n - (j + 1)) (by omega) (w_canon 60 [] [2, 5, 6, 7, 8, 9] hp rfl rfl rfl rfl) ⟨is', mv, j + 1, h1, hjn, rfl, h3, by rw [hw2], rfl⟩
     | true =>
      cases hb : is'.getD j false with
      | true =>
       repeat' (first | refine goR rfl ?_ | refine goS rfl ?_ | refine tret1 rfl ?_ | refine tretN rfl ?_ | refine gY rfl rfl ?_ | refine gN rfl rfl ?_ | refine qT rfl rfl ?_ | refine qF rfl rfl ?_ | refine qT rfl (dT (by omega)) ?_ | refine lT (tl_ixo (m := j) rfl rfl rfl (by omega)) ?_ | (refine lT (tl_ldB rfl rfl (by omega)) ?_; rw [ha]) | (refine lT (tl_ldB rfl rfl (by omega)) ?_; rw [hb]) | fail)
       exact again (m' := n - (j + 1)) (by omega) (w_canon 60 [] [2, 5, 6, 7, 8, 9] hp rfl rfl rfl rfl) ⟨is', mv, j + 1, h1, hjn, rfl, h3, by rw [hw2], rfl⟩
      | false =>
       have hc := cF_set (j := j) (by omega) hb
       repeat' (first | refine goR rfl ?_ | refine goS rfl ?_ | refine tret1 rfl ?_ | refine tretN rfl ?_ | refine gY rfl rfl ?_ | refine gN rfl rfl ?_ | refine qT rfl rfl ?_ | refine qF rfl rfl ?_ | refine qT rfl (dT (by omega)) ?_ | refine lT (tl_ixo (m := j) rfl rfl rfl (by omega)) ?_ | (refine lT (tl_ldB rfl rfl (by omega)) ?_; rw [ha]) | (refine lT (tl_ldB rfl rfl (by omega)) ?_; rw [hb]) | refine tr_storeB rfl rfl rfl (by omega) rfl ?_ | fail)
       exact again (m' := n - (j + 1)) (by omega) (w_canon 60 [] [2, 5, 6, 7, 8, 9] hp rfl rfl rfl rfl) ⟨is'.set j true, true, j + 1, by rw [List.length_set]; exact h1, hjn, rfl, by rw [if_pos rfl]; omega, by rw [hw2]; rfl, rfl⟩
    ·repeat' (first | refine goR rfl ?_ | refine goS rfl ?_ | refine tret1 rfl ?_ | refine tretN rfl ?_ | refine gY rfl rfl ?_ | refine gN rfl rfl ?_ | refine qT rfl rfl ?_ | refine qF rfl rfl ?_ | refine qF rfl (dF (by omega)) ?_ | fail)
     exact again (m' := n - (k + 1)) (by omega) (w_canon 60 [] [2, 5, 6, 7] hp rfl rfl rfl rfl) ⟨is', mv, k + 1, h1, hkn, rfl, h3, by rw [hw1], rfl⟩
  ·repeat' (first | refine goR rfl ?_ | refine goS rfl ?_ | refine tret1 rfl ?_ | refine tretN rfl ?_ | refine gY rfl rfl ?_ | refine gN rfl rfl ?_ | refine qT rfl rfl ?_ | refine qF rfl rfl ?_ | refine qF rfl (dF (by omega)) ?_ | fail)
   exact again (m' := 2 * cF is' + (if mv = true then 1 else 0)) (by rw [if_pos rfl]; cases mv <;> simp at h3 ⊢ <;> omega) (w_canon 60 [] [2, 5, 6] hp rfl rfl rfl rfl) ⟨is', mv, h1, rfl, rfl, rfl⟩
set_option maxHeartbeats 20000000 in
theorem ends_x (ins : List Ins) (hk : okT ins) (hn : ins.length ≤ 100000) (pts : List Int) (hpl : pts.length ≤ 1000000) (s : Int) : PureX prog Tabs 140 [.agg (cTh ins), rwI pts, tI s] (fun r => ∃ is : List Bool, is.length = ins.length ∧ (∀ j, is.getD j false = true ↔ Rch ins pts s j) ∧ r = rwB is) := by
 have cN := next_own ins hk hn
 have cI := fun v => in3_spec (G := Tabs) pts hpl v
 have cF2 : ∀ k, k < ins.length → ∃ x, ins[k]? = some x ∧ Pure prog Tabs 150 [.agg (cIns x)] (tB (fenceO x)) := fun k hk2 => ⟨ins[k], List.getElem?_eq_getElem hk2, fence_spec3 _ (by have := (hk.2 _ (List.getElem_mem hk2)).1; omega)⟩
 have hNl := fun i => nextL_len ins i
 obtain ⟨n, hne⟩ : ∃ n, n = ins.length := ⟨_, rfl⟩
 rw [← hne] at cN hn cF2 hNl
 rw [← hne]
 have hout : ∀ (is : List Bool) (j : Nat), is.length = n → ¬ j < n → is.getD j false = false := fun is j h1 h2 => by
  rw [List.getD_eq_getElem?_getD, List.getElem?_eq_none (by omega)]; rfl
 obtain ⟨N0, hN0⟩ : ∃ N0, N0 = nextL ins s := ⟨_, rfl⟩
 have hbase : ∀ j, N0.getD j false = true → (j : Int) ∉ pts → Rch ins pts s j := fun j h1 h2 => .base j (hN0 ▸ h1) h2
 have hN0l : N0.length = n := by rw [hN0]; exact hNl s
 have c0 := cN s
 rw [← hN0] at c0
 have hind : ∀ is : List Bool, (∀ j, N0.getD j false = true → (j : Int) ∉ pts → is.getD j false = true) → (∀ k, clA ins pts is k) → ∀ j, Rch ins pts s j → is.getD j false = true := fun is hW hC j h => by
  induction h with
  | base j h1 h2 => exact hW j (hN0 ▸ h1) h2
  | step k j x _ h2 h3 h4 h5 ih => exact hC k x ih h2 h3 j h4 h5
 clear hN0
 refine PureX.at mixedOk F140 rfl fun C hP hG hp => goF ?_; simp only [F140, targEnv, Nat.zero_add, Nat.reduceAdd]
 repeat' (first | refine goR rfl ?_ | refine goS rfl ?_ | refine tret1 rfl ?_ | refine tretN rfl ?_ | refine gY rfl rfl ?_ | refine gN rfl rfl ?_ | refine qT rfl rfl ?_ | refine qF rfl rfl ?_ | refine tr_mcallX hP hG (c0) rfl rfl rfl rfl rfl rfl rfl rfl rfl rfl rfl rfl ?_ | fail)
 refine loopS (fun m env σ => ∃ (is : List Bool) (i : Nat), is.length = n ∧ i ≤ n ∧ m = n - i ∧ (∀ j, is.getD j false = true ↔ (N0.getD j false = true ∧ (j < i → (j : Int) ∉ pts))) ∧ env = [(1, rwI pts), (3, .p 0 0), (7, .s 1 1 0 n true), (8, tI i)] ∧ σ = ⟨[(0, .cells (cTh ins) 69), (1, .rows 1 (is.map fun b => [tB b]) 4)], 60⟩) n (w_canon 60 [] [1, 3, 7, 8] hp rfl rfl rfl rfl) ⟨N0, 0, hN0l, Nat.zero_le _, rfl, (fun j => ⟨fun h => ⟨h, fun h => absurd h (Nat.not_lt_zero _)⟩, fun h => h.1⟩), rfl, rfl⟩ ?_
 rintro m0 env σ ⟨is, i, his, hi, rfl, hZ, rfl, rfl⟩
 have hw0 : IntKind.i64.wrap ((i : Int) + 1) = ((i + 1 : Nat) : Int) := by rw [w64 (by omega)]; rfl
 by_cases hin : i < n
 ·have hset : ∀ b : Bool, (b = true ↔ (N0.getD i false = true ∧ (i : Int) ∉ pts)) → ∀ j, (is.set i b).getD j false = true ↔ (N0.getD j false = true ∧ (j < i + 1 → (j : Int) ∉ pts)) := fun b hb j => by
   rw [getD_set is i j b (by omega)]
   by_cases e : j = i
   ·rw [if_pos e, e, hb]
    exact ⟨fun h => ⟨h.1, fun _ => h.2⟩, fun h => ⟨h.1, h.2 (Nat.lt_succ_self _)⟩⟩
   ·rw [if_neg e, hZ]
    exact ⟨fun h => ⟨h.1, fun h2 => h.2 (by omega)⟩, fun h => ⟨h.1, fun h2 => h.2 (by omega)⟩⟩
  have hZi := hZ i
  have cI := cI i
  cases hb : is.getD i false with
  | false =>
   rw [hb] at hZi
   repeat' (first | refine goR rfl ?_ | refine goS rfl ?_ | refine tret1 rfl ?_ | refine tretN rfl ?_ | refine gY rfl rfl ?_ | refine gN rfl rfl ?_ | refine qT rfl rfl ?_ | refine qF rfl rfl ?_ | refine qT rfl (dT (by omega)) ?_ | refine lT (tl_ixo (m := i) rfl rfl rfl (by omega)) ?_ | (refine lT (tl_ldB rfl rfl (by omega)) ?_; rw [hb]) | refine tr_storeB rfl rfl rfl (by omega) rfl ?_ | fail)
   exact again (m' := n - (i + 1)) (by omega) (w_canon 60 [] [1, 3, 7, 8] hp rfl rfl rfl rfl) ⟨is.set i false, i + 1, by rw [List.length_set]; exact his, hin, rfl, hset false ⟨fun h => (by cases h), fun h => hZi.2 ⟨h.1, fun h2 => absurd h2 (Nat.lt_irrefl _)⟩⟩, by rw [hw0], rfl⟩
  | true =>
   rw [hb] at hZi
   have hNi := (hZi.1 rfl).1
   by_cases hm : (i : Int) ∈ pts
   ·rw [dT hm] at cI
    repeat' (first | refine goR rfl ?_ | refine goS rfl ?_ | refine tret1 rfl ?_ | refine tretN rfl ?_ | refine gY rfl rfl ?_ | refine gN rfl rfl ?_ | refine qT rfl rfl ?_ | refine qF rfl rfl ?_ | refine qT rfl (dT (by omega)) ?_ | refine lT (tl_ixo (m := i) rfl rfl rfl (by omega)) ?_ | (refine lT (tl_ldB rfl rfl (by omega)) ?_; rw [hb]) | refine cA rfl (by rw [hP, hG]; exact cI) rfl ?_ | refine tr_storeB rfl rfl rfl (by omega) rfl ?_ | fail)
    exact again (m' := n - (i + 1)) (by omega) (w_canon 60 [] [1, 3, 7, 8] hp rfl rfl rfl rfl) ⟨is.set i false, i + 1, by rw [List.length_set]; exact his, hin, rfl, hset false ⟨fun h => (by cases h), fun h => absurd hm h.2⟩, by rw [hw0], rfl⟩
   ·rw [dF hm] at cI
    repeat' (first | refine goR rfl ?_ | refine goS rfl ?_ | refine tret1 rfl ?_ | refine tretN rfl ?_ | refine gY rfl rfl ?_ | refine gN rfl rfl ?_ | refine qT rfl rfl ?_ | refine qF rfl rfl ?_ | refine qT rfl (dT (by omega)) ?_ | refine lT (tl_ixo (m := i) rfl rfl rfl (by omega)) ?_ | (refine lT (tl_ldB rfl rfl (by omega)) ?_; rw [hb]) | refine cA rfl (by rw [hP, hG]; exact cI) rfl ?_ | refine tr_storeB rfl rfl rfl (by omega) rfl ?_ | fail)
    exact again (m' := n - (i + 1)) (by omega) (w_canon 60 [] [1, 3, 7, 8] hp rfl rfl rfl rfl) ⟨is.set i true, i + 1, by rw [List.length_set]; exact his, hin, rfl, hset true ⟨fun _ => ⟨hNi, hm⟩, fun _ => rfl⟩, by rw [hw0], rfl⟩
 ·have hS : ∀ j, is.getD j false = true → Rch ins pts s j := fun j h => by
   by_cases hj : j < n
   ·exact hbase j ((hZ j).1 h).1 (((hZ j).1 h).2 (by omega))
   ·rw [hout is j his hj] at h; cases h
  have hW : ∀ j, N0.getD j false = true → (j : Int) ∉ pts → is.getD j false = true := fun j h1 h2 => (hZ j).2 ⟨h1, fun _ => h2⟩
  clear hZ
  repeat' (first | refine goR rfl ?_ | refine goS rfl ?_ | refine tret1 rfl ?_ | refine tretN rfl ?_ | refine gY rfl rfl ?_ | refine gN rfl rfl ?_ | refine qT rfl rfl ?_ | refine qF rfl rfl ?_ | refine qF rfl (dF (by omega)) ?_ | fail)
  refine loopS (fun m env σ => ∃ (is : List Bool) (mv : Bool), is.length = n ∧ (∀ j, is.getD j false = true → Rch ins pts s j) ∧ (∀ j, N0.getD j false = true → (j : Int) ∉ pts → is.getD j false = true) ∧ (mv = false → ∀ k, clA ins pts is k) ∧ m = 2 * cF is + (if mv = true then 1 else 0) ∧ env = [(1, rwI pts), (3, .p 0 0), (7, .s 1 1 0 n true), (9, tB mv)] ∧ σ = ⟨[(0, .cells (cTh ins) 69), (1, .rows 1 (is.map fun b => [tB b]) 4)], 60⟩) (2 * cF is + 1) (w_canon 60 [] [1, 3, 7, 9] hp rfl rfl rfl rfl) ⟨is, true, his, hS, hW, (fun h => by cases h), rfl, rfl, rfl⟩ ?_
  clear his hS hW hw0 hin hi
  rintro m1 env σ ⟨is, mv, his, hS, hW, hC, rfl, rfl, rfl⟩
  cases mv with
  | false =>
   have hC := hind is hW (hC rfl)
   repeat' (first | refine goR rfl ?_ | refine goS rfl ?_ | refine tret1 rfl ?_ | refine tretN rfl ?_ | refine gY rfl rfl ?_ | refine gN rfl rfl ?_ | refine qT rfl rfl ?_ | refine qF rfl rfl ?_ | fail)
   exact ⟨rwB is, ⟨is, his, fun j => ⟨hS j, hC j⟩, rfl⟩, .s _ 1 _ true _ 4 rfl (by rw [lM, his])⟩
  | true =>
   repeat' (first | refine goR rfl ?_ | refine goS rfl ?_ | refine tret1 rfl ?_ | refine tretN rfl ?_ | refine gY rfl rfl ?_ | refine gN rfl rfl ?_ | refine qT rfl rfl ?_ | refine qF rfl rfl ?_ | fail)
   refine loopS (fun m env σ => ∃ (is' : List Bool) (mv : Bool) (k : Nat), is'.length = n ∧ (∀ j, is'.getD j false = true → Rch ins pts s j) ∧ (∀ j, N0.getD j false = true → (j : Int) ∉ pts → is'.getD j false = true) ∧ (mv = false → ∀ k', k' < k → clA ins pts is' k') ∧ k ≤ n ∧ m = n - k ∧ cF is' + (if mv = true then 1 else 0) ≤ cF is ∧ env = [(1, rwI pts), (3, .p 0 0), (7, .s 1 1 0 n true), (9, tB mv), (10, tI k)] ∧ σ = ⟨[(0, .cells (cTh ins) 69), (1, .rows 1 (is'.map fun b => [tB b]) 4)], 60⟩) n (w_canon 60 [] [1, 3, 7, 9, 10] hp rfl rfl rfl rfl) ⟨is, false, 0, his, hS, hW, (fun _ k' h => absurd h (Nat.not_lt_zero _)), Nat.zero_le _, rfl, Nat.le_refl _, rfl, rfl⟩ ?_
   clear hS hW hC
   rintro m2 env σ ⟨is', mv, k, h1, hS, hW, hC, h2, rfl, h3, rfl, rfl⟩
   have hw1 : IntKind.i64.wrap ((k : Int) + 1) = ((k + 1 : Nat) : Int) := by rw [w64 (by omega)]; rfl
   by_cases hkn : k < n
   ·obtain ⟨x, hx, cX⟩ := cF2 k hkn
    have hCs : clA ins pts is' k → (mv = false → ∀ k', k' < k + 1 → clA ins pts is' k') := fun h hm k' hk' => by
     by_cases e : k' = k
     ·exact e ▸ h
     ·exact hC hm k' (by omega)
    cases hb : is'.getD k false with
    | false =>
     repeat' (first | refine goR rfl ?_ | refine goS rfl ?_ | refine tret1 rfl ?_ | refine tretN rfl ?_ | refine gY rfl rfl ?_ | refine gN rfl rfl ?_ | refine qT rfl rfl ?_ | refine qF rfl rfl ?_ | refine qT rfl (dT (by omega)) ?_ | refine lT (tl_ixo (m := k) rfl rfl rfl (by omega)) ?_ | (refine lT (tl_ldB rfl rfl (by omega)) ?_; rw [hb]) | fail)
     exact again (m' := n - (k + 1)) (by omega) (w_canon 60 [] [1, 3, 7, 9, 10] hp rfl rfl rfl rfl) ⟨is', mv, k + 1, h1, hS, hW, hCs (fun x h => by rw [hb] at h; cases h), hkn, rfl, h3, by rw [hw1], rfl⟩
    | true =>
     have hRk := hS k hb
     cases hfx : fenceO x with
     | true =>
      rw [hfx] at cX
      repeat' (first | refine goR rfl ?_ | refine goS rfl ?_ | refine tret1 rfl ?_ | refine tretN rfl ?_ | refine gY rfl rfl ?_ | refine gN rfl rfl ?_ | refine qT rfl rfl ?_ | refine qF rfl rfl ?_ | refine qT rfl (dT (by omega)) ?_ | refine lT (tl_ixo (m := k) rfl rfl rfl (by omega)) ?_ | (refine lT (tl_ldB rfl rfl (by omega)) ?_; rw [hb]) | refine lT (tl_ixm rfl rfl rfl hx) ?_ | refine cA rfl (by rw [hP, hG]; exact cX) rfl ?_ | fail)
      exact again (m' := n - (k + 1)) (by omega) (w_canon 60 [] [1, 3, 7, 9, 10] hp rfl rfl rfl rfl) ⟨is', mv, k + 1, h1, hS, hW, hCs (fun y _ hy hf => by rw [hx] at hy; cases hy; rw [hfx] at hf; cases hf), hkn, rfl, h3, by rw [hw1], rfl⟩
     | false =>
      rw [hfx] at cX
      have c1 := cN (k : Int)
      have hmo := hNl (k : Int)
      have hst : ∀ j, (nextL ins (k : Int)).getD j false = true → (j : Int) ∉ pts → Rch ins pts s j := fun j h4 h5 => .step k j x hRk hx hfx h4 h5
      have hcl : ∀ is : List Bool, (∀ j, (nextL ins (k : Int)).getD j false = true → (j : Int) ∉ pts → is.getD j false = true) → clA ins pts is k := fun is h y _ hy _ j h4 h5 => h j h4 h5
      generalize nextL ins (k : Int) = mo at c1 hmo hst hcl
      repeat' (first | refine goR rfl ?_ | refine goS rfl ?_ | refine tret1 rfl ?_ | refine tretN rfl ?_ | refine gY rfl rfl ?_ | refine gN rfl rfl ?_ | refine qT rfl rfl ?_ | refine qF rfl rfl ?_ | refine qT rfl (dT (by omega)) ?_ | refine lT (tl_ixo (m := k) rfl rfl rfl (by omega)) ?_ | (refine lT (tl_ldB rfl rfl (by omega)) ?_; rw [hb]) | refine lT (tl_ixm rfl rfl rfl hx) ?_ | refine cA rfl (by rw [hP, hG]; exact cX) rfl ?_ | refine tr_mcallX hP hG (c1) rfl rfl rfl rfl rfl rfl rfl rfl rfl rfl rfl rfl ?_ | fail)
      refine loopS (fun m env σ => ∃ (is' : List Bool) (mv : Bool) (j : Nat), is'.length = n ∧ (∀ j, is'.getD j false = true → Rch ins pts s j) ∧ (∀ j, N0.getD j false = true → (j : Int) ∉ pts → is'.getD j false = true) ∧ (mv = false → (∀ k', k' < k → clA ins pts is' k') ∧ ∀ j', j' < j → mo.getD j' false = true → (j' : Int) ∉ pts → is'.getD j' false = true) ∧ j ≤ n ∧ m = n - j ∧ cF is' + (if mv = true then 1 else 0) ≤ cF is ∧ env = [(1, rwI pts), (3, .p 0 0), (7, .s 1 1 0 n true), (9, tB mv), (10, tI k), (11, .s 2 1 0 n true), (12, tI j)] ∧ σ = ⟨[(0, .cells (cTh ins) 69), (1, .rows 1 (is'.map fun b => [tB b]) 4), (2, .rows 1 (mo.map fun b => [tB b]) 4)], 60⟩) n (w_canon 60 [] [1, 3, 7, 9, 10, 11, 12] hp rfl rfl rfl rfl) ⟨is', mv, 0, h1, hS, hW, (fun h => ⟨hC h, fun j' h => absurd h (Nat.not_lt_zero _)⟩), Nat.zero_le _, rfl, h3, rfl, rfl⟩ ?_
      clear h1 h3 hb hS hW hC hCs
      rintro m3 env σ ⟨is', mv, j, h1, hS, hW, hC, h2, rfl, h3, rfl, rfl⟩
      have hw2 : IntKind.i64.wrap ((j : Int) + 1) = ((j + 1 : Nat) : Int) := by rw [w64 (by omega)]; rfl
      by_cases hjn : j < n
      ·have cI := cI j
       have hCj : (mo.getD j false = true → (j : Int) ∉ pts → is'.getD j false = true) → (mv = false → (∀ k', k' < k → clA ins pts is' k') ∧ ∀ j', j' < j + 1 → mo.getD j' false = true → (j' : Int) ∉ pts → is'.getD j' false = true) := fun h hm => ⟨(hC hm).1, fun j' hj' => by
        by_cases e : j' = j
        ·exact e ▸ h
        ·exact (hC hm).2 j' (by omega)⟩
       cases ha : mo.getD j false with
       | false =>
        repeat' (first | refine goR rfl ?_ | refine goS rfl ?_ | refine tret1 rfl ?_ | refine tretN rfl ?_ | refine gY rfl rfl ?_ | refine gN rfl rfl ?_ | refine qT rfl rfl ?_ | refine qF rfl rfl ?_ | refine qT rfl (dT (by omega)) ?_ | refine lT (tl_ixo (m := j) rfl rfl rfl (by omega)) ?_ | (refine lT (tl_ldB rfl rfl (by omega)) ?_; rw [ha]) | fail)
        exact again (m' := n - (j + 1)) (by omega) (w_canon 60 [] [1, 3, 7, 9, 10, 11, 12] hp rfl rfl rfl rfl) ⟨is', mv, j + 1, h1, hS, hW, hCj (fun h => by rw [ha] at h; cases h), hjn, rfl, h3, by rw [hw2], rfl⟩
       | true =>
        cases hb : is'.getD j false with
        | true =>
         repeat' (first | refine goR rfl ?_ | refine goS rfl ?_ | refine tret1 rfl ?_ | refine tretN rfl ?_ | refine gY rfl rfl ?_ | refine gN rfl rfl ?_ | refine qT rfl rfl ?_ | refine qF rfl rfl ?_ | refine qT rfl (dT (by omega)) ?_ | refine lT (tl_ixo (m := j) rfl rfl rfl (by omega)) ?_ | (refine lT (tl_ldB rfl rfl (by omega)) ?_; rw [ha]) | (refine lT (tl_ldB rfl rfl (by omega)) ?_; rw [hb]) | fail)
         exact again (m' := n - (j + 1)) (by omega) (w_canon 60 [] [1, 3, 7, 9, 10, 11, 12] hp rfl rfl rfl rfl) ⟨is', mv, j + 1, h1, hS, hW, hCj (fun _ _ => hb), hjn, rfl, h3, by rw [hw2], rfl⟩
        | false =>
         have hc := cF_set (j := j) (by omega) hb
         by_cases hm : (j : Int) ∈ pts
         ·rw [dT hm] at cI
          repeat' (first | refine goR rfl ?_ | refine goS rfl ?_ | refine tret1 rfl ?_ | refine tretN rfl ?_ | refine gY rfl rfl ?_ | refine gN rfl rfl ?_ | refine qT rfl rfl ?_ | refine qF rfl rfl ?_ | refine qT rfl (dT (by omega)) ?_ | refine lT (tl_ixo (m := j) rfl rfl rfl (by omega)) ?_ | (refine lT (tl_ldB rfl rfl (by omega)) ?_; rw [ha]) | (refine lT (tl_ldB rfl rfl (by omega)) ?_; rw [hb]) | refine cA rfl (by rw [hP, hG]; exact cI) rfl ?_ | fail)
          exact again (m' := n - (j + 1)) (by omega) (w_canon 60 [] [1, 3, 7, 9, 10, 11, 12] hp rfl rfl rfl rfl) ⟨is', mv, j + 1, h1, hS, hW, hCj (fun _ h => absurd hm h), hjn, rfl, h3, by rw [hw2], rfl⟩
         ·rw [dF hm] at cI
          have hgs := fun z => getD_set is' j z true (by omega)
          repeat' (first | refine goR rfl ?_ | refine goS rfl ?_ | refine tret1 rfl ?_ | refine tretN rfl ?_ | refine gY rfl rfl ?_ | refine gN rfl rfl ?_ | refine qT rfl rfl ?_ | refine qF rfl rfl ?_ | refine qT rfl (dT (by omega)) ?_ | refine lT (tl_ixo (m := j) rfl rfl rfl (by omega)) ?_ | (refine lT (tl_ldB rfl rfl (by omega)) ?_; rw [ha]) | (refine lT (tl_ldB rfl rfl (by omega)) ?_; rw [hb]) | refine cA rfl (by rw [hP, hG]; exact cI) rfl ?_ | refine tr_storeB rfl rfl rfl (by omega) rfl ?_ | fail)
          exact again (m' := n - (j + 1)) (by omega) (w_canon 60 [] [1, 3, 7, 9, 10, 11, 12] hp rfl rfl rfl rfl) ⟨is'.set j true, true, j + 1, by rw [List.length_set]; exact h1, (fun z hz => by
           rw [hgs] at hz
           by_cases e : z = j
           ·exact e ▸ hst j ha hm
           ·rw [if_neg e] at hz; exact hS z hz), (fun z h4 h5 => by
           rw [hgs]
           by_cases e : z = j
           ·rw [if_pos e]
           ·rw [if_neg e]; exact hW z h4 h5), (fun h => by cases h), hjn, rfl, by rw [if_pos rfl]; omega, by rw [hw2]; rfl, rfl⟩
      ·repeat' (first | refine goR rfl ?_ | refine goS rfl ?_ | refine tret1 rfl ?_ | refine tretN rfl ?_ | refine gY rfl rfl ?_ | refine gN rfl rfl ?_ | refine qT rfl rfl ?_ | refine qF rfl rfl ?_ | refine qF rfl (dF (by omega)) ?_ | fail)
       exact again (m' := n - (k + 1)) (by omega) (w_canon 60 [] [1, 3, 7, 9, 10] hp rfl rfl rfl rfl) ⟨is', mv, k + 1, h1, hS, hW, (fun hm k' hk' => by
        by_cases e : k' = k
        ·refine e ▸ hcl is' (fun z h4 h5 => ?_)
         by_cases hz : z < n
         ·exact (hC hm).2 z (by omega) h4 h5
         ·rw [hout mo z hmo hz] at h4; cases h4
        ·exact (hC hm).1 k' (by omega)), hkn, rfl, h3, by rw [hw1], rfl⟩
   ·have hkeq : k = n := by omega
    repeat' (first | refine goR rfl ?_ | refine goS rfl ?_ | refine tret1 rfl ?_ | refine tretN rfl ?_ | refine gY rfl rfl ?_ | refine gN rfl rfl ?_ | refine qT rfl rfl ?_ | refine qF rfl rfl ?_ | refine qF rfl (dF (by omega)) ?_ | fail)
    exact again (m' := 2 * cF is' + (if mv = true then 1 else 0)) (by rw [if_pos rfl]; cases mv <;> simp at h3 ⊢ <;> omega) (w_canon 60 [] [1, 3, 7, 9] hp rfl rfl rfl rfl) ⟨is', mv, h1, hS, hW, (fun hm k' => by
     by_cases hk' : k' < n
     ·exact hC hm k' (by omega)
     ·exact fun x h => by rw [hout is' k' h1 hk'] at h; cases h), rfl, rfl, rfl⟩
set_option maxHeartbeats 20000000 in
theorem free_x (ins : List Ins) (hk : okT ins) (hn : ins.length ≤ 100000) (pts : List Int) (hpl : pts.length ≤ 1000000) (s l : Int) : PureX prog Tabs 125 [.agg (cTh ins), rwI pts, tI s, tI l] (fun r => ∃ b : Bool, r = tB b ∧ (b = true ↔ frP ins pts s l)) := by
 have cE := ends_x ins hk hn pts hpl s
 have hil : (ins.map cIns).length = ins.length := lM ..
 unfold frP
 by_cases h0 : 0 ≤ l ∧ l < (ins.length : Int)
 ·obtain ⟨k, rfl⟩ : ∃ k : Nat, l = k := ⟨l.toNat, by omega⟩
  have hkl : k < ins.length := by omega
  refine PureX.at mixedOk F125 rfl fun C hP hG hp => goF ?_; simp only [F125, targEnv, Nat.zero_add, Nat.reduceAdd]
  repeat' (first | refine goR rfl ?_ | refine goS rfl ?_ | refine tret1 rfl ?_ | refine tretN rfl ?_ | refine gY rfl rfl ?_ | refine gN rfl rfl ?_ | refine qT rfl rfl ?_ | refine qF rfl rfl ?_ | refine tg_t rfl (dT (by omega)) ?_ | (refine tr_callX rfl (by rw [hP, hG]; exact cE) rfl ?_; rintro _ ⟨is, his, hZ, rfl⟩; have hg : is[k]? = some (is.getD k false) := by rw [List.getD_eq_getElem?_getD, List.getElem?_eq_getElem (by omega)]; rfl) | refine lT (tl_ixm rfl rfl rfl hg) ?_ | ((first | refine gS rfl (fun h => ?_) (fun h => ?_) | refine ts_cond rfl (fun h => ?_) (fun h => ?_)) <;> (try simp only [bs0, beq_iff_eq] at h) <;> try (exfalso; omega; done)) | fail)
  exact ⟨_, ⟨is.getD k false, rfl, by rw [Int.toNat_natCast, hZ k]; exact ⟨fun h => ⟨by omega, by omega, h⟩, fun h => h.2.2⟩⟩, .fr rfl⟩
 ·refine PureX.at mixedOk F125 rfl fun C hP hG hp => goF ?_; simp only [F125, targEnv, Nat.zero_add, Nat.reduceAdd]
  repeat' (first | refine goR rfl ?_ | refine goS rfl ?_ | refine tret1 rfl ?_ | refine tretN rfl ?_ | refine gY rfl rfl ?_ | refine gN rfl rfl ?_ | refine qT rfl rfl ?_ | refine qF rfl rfl ?_ | refine tg_f rfl (dF (by omega)) ?_ | ((first | refine gS rfl (fun h => ?_) (fun h => ?_) | refine ts_cond rfl (fun h => ?_) (fun h => ?_)) <;> (try simp only [bs0, beq_iff_eq] at h) <;> try (exfalso; omega; done)) | fail)
  all_goals exact ⟨_, ⟨false, rfl, ⟨fun h => (by cases h), fun h => absurd ⟨h.1, h.2.1⟩ h0⟩⟩, .fr rfl⟩
end
end Go.Proofs.YtnphhelbianjpaaGreatDoor
namespace Go.Proofs.YtnphhelbianjpaaGreatDoor
set_option maxRecDepth 20000
open Go Go.Proofs.YtnphhelbianjpaaGreatDoor.V Go.Proofs
abbrev P3 := Int × Int × Int
def cP3 (e : P3) : List TV := [tI e.1, tI e.2.1, tI e.2.2]
def rwP (l : List P3) : TV := .lst 3 (l.map cP3)
section
attribute [local irreducible] TwS TwR thenT inBlockT retT
set_option maxHeartbeats 20000000 in
theorem put_x (l : List Int) (hl : l.length ≤ 1000000) (n : Int) : PureX prog Tabs 102 [rwI l, tI n] (fun r => ∃ l' : List Int, r = rwI l' ∧ l'.length ≤ l.length + 1 ∧ ∀ a, a ∈ l' ↔ (a = n ∨ a ∈ l)) := by
 have hml : (l.map fun n => [tI n]).length = l.length := lM ..
 refine PureX.at mixedOk F102 rfl fun C hP hG hp => goF ?_; simp only [F102, targEnv, Nat.zero_add, Nat.reduceAdd]
 repeat' (first | refine goR rfl ?_ | refine goS rfl ?_ | refine tret1 rfl ?_ | refine tretN rfl ?_ | refine gY rfl rfl ?_ | refine gN rfl rfl ?_ | refine qT rfl rfl ?_ | refine qF rfl rfl ?_ | fail)
 refine loopS (fun m env σ => ∃ k : Nat, k ≤ l.length ∧ m = l.length - k ∧ env = [(0, rwI l), (1, tI n), (5, tI k)] ∧ σ = ⟨[], 60⟩) l.length (w_canon 60 [] [0, 1, 5] hp rfl rfl rfl rfl) ⟨0, Nat.zero_le _, rfl, rfl, rfl⟩ ?_
 rintro m1 env σ ⟨k, hk, rfl, rfl, rfl⟩
 have hw1 : IntKind.i64.wrap ((k : Int) + 1) = ((k + 1 : Nat) : Int) := by rw [w64 (by omega)]; rfl
 by_cases hkl : k < l.length
 ·have hx : l[k]? = some l[k] := List.getElem?_eq_getElem hkl
  have hxm : l[k] ∈ l := List.getElem_mem hkl
  have htd : l.take k ++ l.drop k = l := List.take_append_drop ..
  generalize l[k] = x at *
  by_cases h1 : x < n
  ·repeat' (first | refine goR rfl ?_ | refine goS rfl ?_ | refine tret1 rfl ?_ | refine tretN rfl ?_ | refine gY rfl rfl ?_ | refine gN rfl rfl ?_ | refine qT rfl rfl ?_ | refine qF rfl rfl ?_ | refine qT rfl (dT (by omega)) ?_ | refine tg_t rfl (dT (by omega)) ?_ | refine lT (tl_ixm rfl rfl rfl hx) ?_ | fail)
   exact again (m' := l.length - (k + 1)) (by omega) (w_canon 60 [] [0, 1, 5] hp rfl rfl rfl rfl) ⟨k + 1, by omega, rfl, by rw [hw1], rfl⟩
  ·by_cases h2 : x = n
   ·repeat' (first | refine goR rfl ?_ | refine goS rfl ?_ | refine tret1 rfl ?_ | refine tretN rfl ?_ | refine gY rfl rfl ?_ | refine gN rfl rfl ?_ | refine qT rfl rfl ?_ | refine qF rfl rfl ?_ | refine tg_t rfl (dT (by omega)) ?_ | refine qF rfl (dF h1) ?_ | refine qT rfl (dT h2) ?_ | refine lT (tl_ixm rfl rfl rfl hx) ?_ | fail)
    exact ⟨_, ⟨l, rfl, Nat.le_succ _, fun a => ⟨.inr, fun h => h.elim (fun h => by rw [h, ← h2]; exact hxm) id⟩⟩, .fr rfl⟩
   ·repeat' (first | refine goR rfl ?_ | refine goS rfl ?_ | refine tret1 rfl ?_ | refine tretN rfl ?_ | refine gY rfl rfl ?_ | refine gN rfl rfl ?_ | refine qT rfl rfl ?_ | refine qF rfl rfl ?_ | refine tg_t rfl (dT (by omega)) ?_ | refine qF rfl (dF h1) ?_ | refine qF rfl (dF h2) ?_ | refine lT (tl_ixm rfl rfl rfl hx) ?_ | refine lT (tl_slc (r := (l.take k).map fun n => [tI n]) rfl rfl rfl ⟨by simp only [Option.getD_none]; omega, by simp only [Option.getD_none, Option.getD_some]; omega, by simp only [Option.getD_some]; omega⟩ (by simp only [Option.getD_none, Option.getD_some]; rw [List.map_take]; rfl)) ?_ | refine lT (tl_slc (r := (l.drop k).map fun n => [tI n]) rfl rfl rfl ⟨by simp only [Option.getD_some]; omega, by simp only [Option.getD_none, Option.getD_some]; omega, by simp only [Option.getD_none]; omega⟩ (by simp only [Option.getD_none, Option.getD_some, Int.toNat_natCast]; rw [List.map_drop]; exact List.take_of_length_le (by rw [List.length_drop]; exact Nat.le_refl _))) ?_ | refine tr_append0 rfl (.inl rfl) (by simp only [lM, List.length_take]; omega) rfl ?_ | refine tr_append rfl rfl (by simp only [lA, lM, List.length_cons, List.length_nil]) (.inr (.inr ⟨_, _, _, _, rfl, rfl, rfl⟩)) (by simp only [lA, lM, List.length_take, List.length_drop, List.length_cons, List.length_nil]; omega) rfl ?_ | refine tr_append rfl rfl (by simp only [lA, lM, List.length_cons, List.length_nil]) (.inl rfl) (by simp only [lA, lM, List.length_take, List.length_drop, List.length_cons, List.length_nil]; omega) rfl ?_ | fail)
    refine ⟨_, ⟨l.take k ++ [n] ++ l.drop k, ?_, ?_, fun a => ?_⟩, .s _ 1 _ true _ 3 rfl (by simp only [lA, lM, List.length_cons, List.length_nil])⟩
    ·rw [rwI, List.map_append, List.map_append]; rfl
    ·simp only [lA, List.length_take, List.length_drop, List.length_cons, List.length_nil]; omega
    ·rw [← htd]
     simp only [List.mem_append, List.mem_cons, List.not_mem_nil, or_false]
     rw [htd]
     constructor
     ·rintro ((h | h) | h)
      ·exact .inr (.inl h)
      ·exact .inl h
      ·exact .inr (.inr h)
     ·rintro (h | h | h)
      ·exact .inl (.inr h)
      ·exact .inl (.inl h)
      ·exact .inr h
 ·have hke : k = l.length := by omega
  subst hke
  have htl : l.take l.length = l := List.take_length
  have hdl : l.drop l.length = [] := List.drop_length
  repeat' (first | refine goR rfl ?_ | refine goS rfl ?_ | refine tret1 rfl ?_ | refine tretN rfl ?_ | refine gY rfl rfl ?_ | refine gN rfl rfl ?_ | refine qT rfl rfl ?_ | refine qF rfl rfl ?_ | refine tg_f rfl (dF (by omega)) ?_ | refine qF rfl (dF (by omega)) ?_ | refine lT (tl_slc (r := (l.take l.length).map fun n => [tI n]) rfl rfl rfl ⟨by simp only [Option.getD_none]; omega, by simp only [Option.getD_none, Option.getD_some]; omega, by simp only [Option.getD_some]; omega⟩ (by simp only [Option.getD_none, Option.getD_some]; rw [List.map_take]; rfl)) ?_ | refine lT (tl_slc (r := (l.drop l.length).map fun n => [tI n]) rfl rfl rfl ⟨by simp only [Option.getD_some]; omega, by simp only [Option.getD_none, Option.getD_some]; omega, by simp only [Option.getD_none]; omega⟩ (by simp only [Option.getD_none, Option.getD_some, Int.toNat_natCast]; rw [List.map_drop]; exact List.take_of_length_le (by rw [List.length_drop]; exact Nat.le_refl _))) ?_ | refine tr_append0 rfl (.inl rfl) (by simp only [lM, List.length_take]; omega) rfl ?_ | refine tr_append rfl rfl (by simp only [lA, lM, List.length_cons, List.length_nil]) (.inr (.inr ⟨_, _, _, _, rfl, rfl, rfl⟩)) (by simp only [lA, lM, List.length_take, List.length_drop, List.length_cons, List.length_nil]; omega) rfl ?_ | refine tr_append rfl rfl (by simp only [lA, lM, List.length_cons, List.length_nil]) (.inl rfl) (by simp only [lA, lM, List.length_take, List.length_drop, List.length_cons, List.length_nil]; omega) rfl ?_ | fail)
  refine ⟨_, ⟨l.take l.length ++ [n] ++ l.drop l.length, ?_, ?_, fun a => ?_⟩, .s _ 1 _ true _ 3 rfl (by simp only [lA, lM, List.length_cons, List.length_nil])⟩
  ·rw [rwI, List.map_append, List.map_append]; rfl
  ·simp only [lA, List.length_take, List.length_drop, List.length_cons, List.length_nil]; omega
  ·rw [htl, hdl]
   simp only [List.mem_append, List.mem_cons, List.not_mem_nil, or_false]
   exact ⟨fun h => h.symm, fun h => h.symm⟩
set_option maxHeartbeats 20000000 in
theorem without_x (l : List Int) (hl : l.length ≤ 1000000) (n : Int) : PureX prog Tabs 106 [rwI l, tI n] (fun r => ∃ l' : List Int, r = rwI l' ∧ l'.length ≤ l.length) := by
 have hml : (l.map fun n => [tI n]).length = l.length := lM ..
 refine PureX.at mixedOk F106 rfl fun C hP hG hp => goF ?_; simp only [F106, targEnv, Nat.zero_add, Nat.reduceAdd]
 repeat' (first | refine goR rfl ?_ | refine goS rfl ?_ | refine tret1 rfl ?_ | refine tretN rfl ?_ | refine gY rfl rfl ?_ | refine gN rfl rfl ?_ | refine qT rfl rfl ?_ | refine qF rfl rfl ?_ | fail)
 refine loopS (fun m env σ => ∃ a b o, l = a ++ b ∧ m = b.length ∧ o.length ≤ a.length ∧ env = [(0, rwI l), (1, tI n), (5, .s 0 1 0 o.length true), (6, tI a.length)] ∧ σ = ⟨[(0, .rows 1 (o.map fun n => [tI n]) 3)], 60⟩) l.length ((w_virt (d := 5) 1 3 rfl).trans (w_canon 60 [] [0, 1, 5, 6] hp rfl rfl rfl rfl)) ⟨[], l, [], rfl, rfl, Nat.le_refl _, rfl, rfl⟩ ?_
 rintro m1 env σ ⟨a, b, o, e, rfl, ho, rfl, rfl⟩
 have hla : l.length = a.length + b.length := by rw [e, lA]
 cases b with
 | nil =>
  rw [List.length_nil] at hla
  repeat' (first | refine goR rfl ?_ | refine goS rfl ?_ | refine tret1 rfl ?_ | refine tretN rfl ?_ | refine gY rfl rfl ?_ | refine gN rfl rfl ?_ | refine qT rfl rfl ?_ | refine qF rfl rfl ?_ | refine qF rfl (dF (by omega)) ?_ | fail)
  exact ⟨rwI o, ⟨o, rfl, by omega⟩, .s _ 1 _ true _ 3 rfl (by rw [lM])⟩
 | cons x b =>
  have hx : l[a.length]? = some x := by rw [e]; exact ix
  simp only [List.length_cons] at hla
  have hw1 : IntKind.i64.wrap ((a.length : Int) + 1) = ((a ++ [x]).length : Int) := by rw [w64 (by omega), lA]; rfl
  have hal : (a ++ [x]).length = a.length + 1 := by rw [lA]; rfl
  by_cases h0 : x = n
  ·repeat' (first | refine goR rfl ?_ | refine goS rfl ?_ | refine tret1 rfl ?_ | refine tretN rfl ?_ | refine gY rfl rfl ?_ | refine gN rfl rfl ?_ | refine qT rfl rfl ?_ | refine qF rfl rfl ?_ | refine qT rfl (dT (by omega)) ?_ | refine qF rfl (ndF h0) ?_ | refine lT (tl_ixm rfl rfl rfl hx) ?_ | fail)
   exact again (m' := b.length) (Nat.lt_succ_self _) (w_canon 60 [] [0, 1, 5, 6] hp rfl rfl rfl rfl) ⟨a ++ [x], b, o, by rw [e]; simp, rfl, by omega, by rw [hw1], rfl⟩
  ·repeat' (first | refine goR rfl ?_ | refine goS rfl ?_ | refine tret1 rfl ?_ | refine tretN rfl ?_ | refine gY rfl rfl ?_ | refine gN rfl rfl ?_ | refine qT rfl rfl ?_ | refine qF rfl rfl ?_ | refine qT rfl (dT (by omega)) ?_ | refine qT rfl (ndT h0) ?_ | refine lT (tl_ixm rfl rfl rfl hx) ?_ | refine tr_append rfl rfl (by rw [lM]) (.inr (.inr ⟨_, _, _, _, rfl, rfl, rfl⟩)) (by simp only [List.length_cons, List.length_nil]; omega) rfl ?_ | fail)
   exact again (m' := b.length) (Nat.lt_succ_self _) (w_canon 60 [] [0, 1, 5, 6] hp rfl rfl rfl rfl) ⟨a ++ [x], b, o ++ [x], by rw [e]; simp, rfl, by rw [hal, lA]; exact Nat.succ_le_succ ho, by rw [hw1, @lA _ o]; rfl, by rw [List.map_append]; rfl⟩
set_option maxHeartbeats 20000000 in
theorem of_x (l : List P3) (hl : l.length ≤ 1000000) (t : Int) : PureX prog Tabs 103 [rwP l, tI t] (fun r => ∃ l' : List P3, r = rwP l' ∧ l'.length ≤ l.length ∧ ∀ e ∈ l', e ∈ l ∧ e.1 = t) := by
 have hml : (l.map cP3).length = l.length := lM ..
 refine PureX.at mixedOk F103 rfl fun C hP hG hp => goF ?_; simp only [F103, targEnv, Nat.zero_add, Nat.reduceAdd]
 repeat' (first | refine goR rfl ?_ | refine goS rfl ?_ | refine tret1 rfl ?_ | refine tretN rfl ?_ | refine gY rfl rfl ?_ | refine gN rfl rfl ?_ | refine qT rfl rfl ?_ | refine qF rfl rfl ?_ | fail)
 refine loopS (fun m env σ => ∃ a b o, l = a ++ b ∧ m = b.length ∧ o.length ≤ a.length ∧ (∀ e ∈ o, e ∈ l ∧ e.1 = t) ∧ env = [(0, rwP l), (1, tI t), (5, .s 0 3 0 o.length true), (6, tI a.length)] ∧ σ = ⟨[(0, .rows 3 (o.map cP3) 169)], 60⟩) l.length ((w_virt (d := 5) 3 169 rfl).trans (w_canon 60 [] [0, 1, 5, 6] hp rfl rfl rfl rfl)) ⟨[], l, [], rfl, rfl, Nat.le_refl _, (fun e h => by cases h), rfl, rfl⟩ ?_
 rintro m1 env σ ⟨a, b, o, e, rfl, ho, hoe, rfl, rfl⟩
 have hla : l.length = a.length + b.length := by rw [e, lA]
 cases b with
 | nil =>
  rw [List.length_nil] at hla
  repeat' (first | refine goR rfl ?_ | refine goS rfl ?_ | refine tret1 rfl ?_ | refine tretN rfl ?_ | refine gY rfl rfl ?_ | refine gN rfl rfl ?_ | refine qT rfl rfl ?_ | refine qF rfl rfl ?_ | refine qF rfl (dF (by omega)) ?_ | fail)
  exact ⟨rwP o, ⟨o, rfl, by omega, hoe⟩, .s _ 3 _ true _ 169 rfl (by rw [lM])⟩
 | cons x b =>
  have hx : l[a.length]? = some x := by rw [e]; exact ix
  simp only [List.length_cons] at hla
  have hw1 : IntKind.i64.wrap ((a.length : Int) + 1) = ((a ++ [x]).length : Int) := by rw [w64 (by omega), lA]; rfl
  have hal : (a ++ [x]).length = a.length + 1 := by rw [lA]; rfl
  by_cases h0 : x.1 = t
  ·have hoe2 : ∀ e ∈ o ++ [x], e ∈ l ∧ e.1 = t := fun e he => by
    rcases List.mem_append.1 he with h | h
    ·exact hoe e h
    ·rw [List.mem_singleton.1 h]; exact ⟨List.mem_of_getElem? hx, h0⟩
   clear hoe
   repeat' (first | refine goR rfl ?_ | refine goS rfl ?_ | refine tret1 rfl ?_ | refine tretN rfl ?_ | refine gY rfl rfl ?_ | refine gN rfl rfl ?_ | refine qT rfl rfl ?_ | refine qF rfl rfl ?_ | refine qT rfl (dT (by omega)) ?_ | refine qT rfl (dT h0) ?_ | refine lT (tl_ixm rfl rfl rfl hx) ?_ | refine tr_append rfl rfl (by rw [lM]) (.inr (.inr ⟨_, _, _, _, rfl, rfl, rfl⟩)) (by simp only [List.length_cons, List.length_nil]; omega) rfl ?_ | fail)
   exact again (m' := b.length) (Nat.lt_succ_self _) (w_canon 60 [] [0, 1, 5, 6] hp rfl rfl rfl rfl) ⟨a ++ [x], b, o ++ [x], by rw [e]; simp, rfl, by rw [hal, lA]; exact Nat.succ_le_succ ho, hoe2, by rw [hw1, @lA _ o]; rfl, by rw [List.map_append]; rfl⟩
  ·repeat' (first | refine goR rfl ?_ | refine goS rfl ?_ | refine tret1 rfl ?_ | refine tretN rfl ?_ | refine gY rfl rfl ?_ | refine gN rfl rfl ?_ | refine qT rfl rfl ?_ | refine qF rfl rfl ?_ | refine qT rfl (dT (by omega)) ?_ | refine qF rfl (dF h0) ?_ | refine lT (tl_ixm rfl rfl rfl hx) ?_ | fail)
   exact again (m' := b.length) (Nat.lt_succ_self _) (w_canon 60 [] [0, 1, 5, 6] hp rfl rfl rfl rfl) ⟨a ++ [x], b, o, by rw [e]; simp, rfl, by omega, hoe, by rw [hw1], rfl⟩
set_option maxHeartbeats 20000000 in
theorem uncut_x (ins : List Ins) (hk : okT ins) (hn : ins.length ≤ 100000) (l : List P3) (hl : l.length ≤ 1000000) (pts : List Int) (hpl : pts.length ≤ 1000000) : PureX prog Tabs 105 [.agg (cTh ins), rwP l, rwI pts] (fun r => ∃ l' : List P3, r = rwP l' ∧ l'.length ≤ l.length ∧ (∀ e ∈ l', e ∈ l ∧ frP ins pts e.2.1 e.2.2) ∧ (l'.length < l.length ↔ ∃ e ∈ l, ¬ frP ins pts e.2.1 e.2.2)) := by
 have hml : (l.map cP3).length = l.length := lM ..
 refine PureX.at mixedOk F105 rfl fun C hP hG hp => goF ?_; simp only [F105, targEnv, Nat.zero_add, Nat.reduceAdd]
 repeat' (first | refine goR rfl ?_ | refine goS rfl ?_ | refine tret1 rfl ?_ | refine tretN rfl ?_ | refine gY rfl rfl ?_ | refine gN rfl rfl ?_ | refine qT rfl rfl ?_ | refine qF rfl rfl ?_ | fail)
 refine loopS (fun m env σ => ∃ a b o, l = a ++ b ∧ m = b.length ∧ o.length ≤ a.length ∧ (∀ e ∈ o, e ∈ l ∧ frP ins pts e.2.1 e.2.2) ∧ (o.length < a.length ↔ ∃ e ∈ a, ¬ frP ins pts e.2.1 e.2.2) ∧ env = [(1, rwP l), (2, rwI pts), (3, .p 0 0), (7, .s 1 3 0 o.length true), (8, tI a.length)] ∧ σ = ⟨[(0, .cells (cTh ins) 69), (1, .rows 3 (o.map cP3) 169)], 60⟩) l.length ((w_virt (d := 7) 3 169 rfl).trans (w_canon 60 [] [1, 2, 3, 7, 8] hp rfl rfl rfl rfl)) ⟨[], l, [], rfl, rfl, Nat.le_refl _, (fun e h => by cases h), ⟨fun h => absurd h (Nat.lt_irrefl _), fun ⟨e, h, _⟩ => by cases h⟩, rfl, rfl⟩ ?_
 rintro m1 env σ ⟨a, b, o, e, rfl, ho, hoe, hol, rfl, rfl⟩
 have hla : l.length = a.length + b.length := by rw [e, lA]
 cases b with
 | nil =>
  rw [List.length_nil] at hla
  rw [List.append_nil] at e
  subst e
  repeat' (first | refine goR rfl ?_ | refine goS rfl ?_ | refine tret1 rfl ?_ | refine tretN rfl ?_ | refine gY rfl rfl ?_ | refine gN rfl rfl ?_ | refine qT rfl rfl ?_ | refine qF rfl rfl ?_ | refine qF rfl (dF (by omega)) ?_ | fail)
  exact ⟨rwP o, ⟨o, rfl, ho, hoe, hol⟩, .s _ 3 _ true _ 169 rfl (by rw [lM])⟩
 | cons x b =>
  have hx : l[a.length]? = some x := by rw [e]; exact ix
  simp only [List.length_cons] at hla
  have hw1 : IntKind.i64.wrap ((a.length : Int) + 1) = ((a ++ [x]).length : Int) := by rw [w64 (by omega), lA]; rfl
  have hal : (a ++ [x]).length = a.length + 1 := by rw [lA]; rfl
  have cF3 := free_x ins hk hn pts hpl x.2.1 x.2.2
  have hsn : (∃ e ∈ a ++ [x], ¬ frP ins pts e.2.1 e.2.2) ↔ ((∃ e ∈ a, ¬ frP ins pts e.2.1 e.2.2) ∨ ¬ frP ins pts x.2.1 x.2.2) := by
   constructor
   ·rintro ⟨e, he, hf⟩
    rcases List.mem_append.1 he with h | h
    ·exact .inl ⟨e, h, hf⟩
    ·exact .inr (List.mem_singleton.1 h ▸ hf)
   ·rintro (⟨e, he, hf⟩ | h)
    ·exact ⟨e, List.mem_append_left _ he, hf⟩
    ·exact ⟨x, List.mem_append_right _ (List.mem_singleton.2 rfl), h⟩
  repeat' (first | refine goR rfl ?_ | refine goS rfl ?_ | refine tret1 rfl ?_ | refine tretN rfl ?_ | refine gY rfl rfl ?_ | refine gN rfl rfl ?_ | refine qT rfl rfl ?_ | refine qF rfl rfl ?_ | refine qT rfl (dT (by omega)) ?_ | refine lT (tl_ixm rfl rfl rfl hx) ?_ | (refine tr_callX rfl (by rw [hP, hG]; exact cF3) rfl ?_; rintro _ ⟨fb, rfl, hfb⟩; cases fb) | fail)
  ·exact again (m' := b.length) (Nat.lt_succ_self _) (w_canon 60 [] [1, 2, 3, 7, 8] hp rfl rfl rfl rfl) ⟨a ++ [x], b, o, by rw [e]; simp, rfl, by omega, hoe, by
    rw [hsn, hal]
    exact ⟨fun _ => .inr (fun h => by have := hfb.2 h; cases this), fun _ => by omega⟩, by rw [hw1], rfl⟩
  ·have hfx := hfb.1 rfl
   have hoe2 : ∀ e ∈ o ++ [x], e ∈ l ∧ frP ins pts e.2.1 e.2.2 := fun e he => by
    rcases List.mem_append.1 he with h | h
    ·exact hoe e h
    ·rw [List.mem_singleton.1 h]; exact ⟨List.mem_of_getElem? hx, hfx⟩
   have hol2 : (o ++ [x]).length < (a ++ [x]).length ↔ ∃ e ∈ a ++ [x], ¬ frP ins pts e.2.1 e.2.2 := by
    rw [hsn, ← hol, hal, lA, List.length_singleton]
    exact ⟨fun h => .inl (by omega), fun h => h.elim (fun h => by omega) (fun h => absurd hfx h)⟩
   clear hoe hol hsn hfb
   repeat' (first | refine goR rfl ?_ | refine goS rfl ?_ | refine tret1 rfl ?_ | refine tretN rfl ?_ | refine gY rfl rfl ?_ | refine gN rfl rfl ?_ | refine qT rfl rfl ?_ | refine qF rfl rfl ?_ | refine lT (tl_ixm rfl rfl rfl hx) ?_ | refine tr_append rfl rfl (by rw [lM]) (.inr (.inr ⟨_, _, _, _, rfl, rfl, rfl⟩)) (by simp only [List.length_cons, List.length_nil]; omega) rfl ?_ | fail)
   exact again (m' := b.length) (Nat.lt_succ_self _) (w_canon 60 [] [1, 2, 3, 7, 8] hp rfl rfl rfl rfl) ⟨a ++ [x], b, o ++ [x], by rw [e]; simp, rfl, by rw [hal, lA]; exact Nat.succ_le_succ ho, hoe2, hol2, by rw [hw1, @lA _ o]; rfl, by rw [List.map_append]; rfl⟩
theorem none_spec (p : Prg) (ho : okP p) (hc : checkC p = 0) (t : Nat) (ht : t < p.threads.length) : Pure prog Tabs 101 [.agg (cPrg p), tI t] (tB false) := by
 have c1 := check_spec2 p ho
 rw [hc] at c1
 have hmt : (p.threads.map cTh).length = p.threads.length := lM ..
 have ho3 := ho.2.2.1
 rw [show (false : Bool) = decide ((t : Int) ≥ ((p.threads.map cTh).length : Int)) from (dF (by omega)).symm]
 refine Pure.at mixedOk F101 rfl fun C hP hG hp => goF ?_; simp only [F101, targEnv, Nat.zero_add, Nat.reduceAdd]
 repeat' (first | refine goR rfl ?_ | refine goS rfl ?_ | refine tret1 rfl ?_ | refine tretN rfl ?_ | refine gY rfl rfl ?_ | refine gN rfl rfl ?_ | refine qT rfl rfl ?_ | refine qF rfl rfl ?_ | refine cA rfl (by rw [hP, hG]; exact c1) rfl ?_ | refine tg_f rfl (dF (by omega)) ?_ | fail)
 exact .fr rfl
end
end Go.Proofs.YtnphhelbianjpaaGreatDoor
namespace Go.Proofs.YtnphhelbianjpaaGreatDoor
set_option maxRecDepth 20000
open Go Go.Proofs.YtnphhelbianjpaaGreatDoor.V Go.Proofs
theorem sh_access : shapeOf prog 10000 179 = some [.i .i64, .i .i64, .i .i64, .i .i64, .b, .b] := by kernel_rfl
theorem ag_access : (prog.underlying 179).map aggD = some true := by kernel_rfl
theorem eg_access : prog.eqGuardType prog.depth 179 = false := by kernel_rfl
structure Acc where
 th : Int
 ins : Int
 part : Int
 sym : Int
 wr : Bool
 lk : Bool
def cAcc (a : Acc) : List TV := [tI a.th, tI a.ins, tI a.part, tI a.sym, tB a.wr, tB a.lk]
def rwA (l : List Acc) : TV := .lst 6 (l.map cAcc)
def atL (p : Prg) (a b : Int) : Prop := ∃ (t i : Nat) (ins : List Ins), a = t ∧ b = i ∧ p.threads[t]? = some ins ∧ i < ins.length
def okL (p : Prg) : Prop := okP p ∧ checkC p = 0 ∧ p.threads.length ≤ 64 ∧ ∀ t ∈ p.threads, t.length ≤ 7
def QT (r : TV) : Prop := ∃ b : Bool, r = tB b
section
attribute [local irreducible] TwS TwR thenT inBlockT retT readsB writesB lockedB readsO writesO
set_option maxHeartbeats 20000000 in
theorem accesses_x (p : Prg) (hO : okL p) : PureX prog Tabs 122 [.agg (cPrg p)] (fun r => ∃ l : List Acc, r = rwA l ∧ l.length ≤ 896 ∧ ∀ a ∈ l, atL p a.th a.ins) := by
 obtain ⟨ho, hc, h64, hN⟩ := hO
 have c1 := check_spec2 p ho
 rw [hc] at c1
 have ho3 := ho.2.2.2
 clear ho hc
 have hmt : (p.threads.map cTh).length = p.threads.length := lM ..
 refine PureX.at mixedOk F122 rfl fun C hP hG hp => goF ?_; simp only [F122, targEnv, Nat.zero_add, Nat.reduceAdd]
 repeat' (first | refine goR rfl ?_ | refine goS rfl ?_ | refine tret1 rfl ?_ | refine tretN rfl ?_ | refine gY rfl rfl ?_ | refine gN rfl rfl ?_ | refine qT rfl rfl ?_ | refine qF rfl rfl ?_ | refine cA rfl (by rw [hP, hG]; exact c1) rfl ?_ | fail)
 refine loopS (fun m env σ => ∃ (o : List Acc) (t : Nat), t ≤ p.threads.length ∧ m = p.threads.length - t ∧ o.length ≤ 14 * t ∧ (∀ a ∈ o, atL p a.th a.ins) ∧ env = [(1, .p 0 0), (3, .s 1 6 0 o.length true), (4, tI t)] ∧ σ = ⟨[(0, .cells (cPrg p) 28), (1, .rows 6 (o.map cAcc) 179)], 60⟩) p.threads.length ((w_virt (d := 3) 6 179 rfl).trans (w_canon 60 [] [1, 3, 4] hp rfl rfl rfl rfl)) ⟨[], 0, Nat.zero_le _, rfl, Nat.le_refl _, (fun a h => by cases h), rfl, rfl⟩ ?_
 rintro m1 env σ ⟨o, t, ht, rfl, hol, hoa, rfl, rfl⟩
 have hw1 : IntKind.i64.wrap ((t : Int) + 1) = ((t + 1 : Nat) : Int) := by rw [w64 (by omega)]; rfl
 by_cases htn : t < p.threads.length
 ·have hx : p.threads[t]? = some p.threads[t] := List.getElem?_eq_getElem htn
  have hxm : p.threads[t] ∈ p.threads := List.getElem_mem htn
  generalize p.threads[t] = ins at hx hxm
  have hil : (ins.map cIns).length = ins.length := lM ..
  have hi1 := hN ins hxm
  have hoi := ho3 ins hxm
  repeat' (first | refine goR rfl ?_ | refine goS rfl ?_ | refine tret1 rfl ?_ | refine tretN rfl ?_ | refine gY rfl rfl ?_ | refine gN rfl rfl ?_ | refine qT rfl rfl ?_ | refine qF rfl rfl ?_ | refine qT rfl (dT (by omega)) ?_ | fail)
  refine loopS (fun m env σ => ∃ (o : List Acc) (i : Nat), i ≤ ins.length ∧ m = ins.length - i ∧ o.length ≤ 14 * t + 2 * i ∧ (∀ a ∈ o, atL p a.th a.ins) ∧ env = [(1, .p 0 0), (3, .s 1 6 0 o.length true), (4, tI t), (5, tI i)] ∧ σ = ⟨[(0, .cells (cPrg p) 28), (1, .rows 6 (o.map cAcc) 179)], 60⟩) ins.length (w_canon 60 [] [1, 3, 4, 5] hp rfl rfl rfl rfl) ⟨o, 0, Nat.zero_le _, rfl, hol, hoa, rfl, rfl⟩ ?_
  clear hol hoa
  rintro m2 env σ ⟨o, i, hi, rfl, hol, hoa, rfl, rfl⟩
  have hw2 : IntKind.i64.wrap ((i : Int) + 1) = ((i + 1 : Nat) : Int) := by rw [w64 (by omega)]; rfl
  by_cases hin : i < ins.length
  ·have hy : ins[i]? = some ins[i] := List.getElem?_eq_getElem hin
   have hym : ins[i] ∈ ins := List.getElem_mem hin
   generalize ins[i] = x at hy hym
   have hs : x.to.size ≤ 1000000000000 := Nat.le_trans (hoi.2 x hym).1 (by decide)
   have r1 := reads_spec2 x hs
   have r2 := writes_spec2 x hs
   have r3 := locked_spec2 x hs
   generalize readsB x = rb at r1
   generalize readsO x = ro at r1
   generalize writesB x = wb at r2
   generalize writesO x = wo at r2
   generalize lockedB x = lk at r3
   have hat : atL p (t : Int) (i : Int) := ⟨t, i, ins, rfl, rfl, hx, hin⟩
   have hoa1 : ∀ a, a.th = (t : Int) → a.ins = (i : Int) → ∀ c ∈ o ++ [a], atL p c.th c.ins := fun a e1 e2 c hc => by
    rcases List.mem_append.1 hc with h | h
    ·exact hoa c h
    ·rw [List.mem_singleton.1 h, e1, e2]; exact hat
   have hoa2 : ∀ a b, a.th = (t : Int) → a.ins = (i : Int) → b.th = (t : Int) → b.ins = (i : Int) → ∀ c ∈ o ++ [a, b], atL p c.th c.ins := fun a b e1 e2 e3 e4 c hc => by
    rcases List.mem_append.1 hc with h | h
    ·exact hoa c h
    ·rcases List.mem_cons.1 h with h | h
     ·rw [h, e1, e2]; exact hat
     ·rw [List.mem_singleton.1 h, e3, e4]; exact hat
   cases rb <;> cases wb
   ·repeat' (first | refine goR rfl ?_ | refine goS rfl ?_ | refine tret1 rfl ?_ | refine tretN rfl ?_ | refine gY rfl rfl ?_ | refine gN rfl rfl ?_ | refine qT rfl rfl ?_ | refine qF rfl rfl ?_ | refine qT rfl (dT (by omega)) ?_ | refine lT (tl_ixm rfl rfl rfl hx) ?_ | refine lT (tl_ixm rfl rfl rfl hy) ?_ | refine cA rfl (by rw [hP, hG]; exact r1) rfl ?_ | refine cA rfl (by rw [hP, hG]; exact r2) rfl ?_ | refine cA rfl (by rw [hP, hG]; exact r3) rfl ?_ | fail)
    exact again (m' := ins.length - (i + 1)) (by omega) (w_canon 60 [] [1, 3, 4, 5] hp rfl rfl rfl rfl) ⟨o, i + 1, hin, rfl, by omega, hoa, by rw [hw2], rfl⟩
   ·repeat' (first | refine goR rfl ?_ | refine goS rfl ?_ | refine tret1 rfl ?_ | refine tretN rfl ?_ | refine gY rfl rfl ?_ | refine gN rfl rfl ?_ | refine qT rfl rfl ?_ | refine qF rfl rfl ?_ | refine qT rfl (dT (by omega)) ?_ | refine lT (tl_ixm rfl rfl rfl hx) ?_ | refine lT (tl_ixm rfl rfl rfl hy) ?_ | refine cA rfl (by rw [hP, hG]; exact r1) rfl ?_ | refine cA rfl (by rw [hP, hG]; exact r2) rfl ?_ | refine cA rfl (by rw [hP, hG]; exact r3) rfl ?_ | refine tr_append rfl rfl (by rw [lM]) (.inr (.inr ⟨_, _, _, _, rfl, rfl, rfl⟩)) (by simp only [List.length_cons, List.length_nil]; omega) rfl ?_ | fail)
    exact again (m' := ins.length - (i + 1)) (by omega) (w_canon 60 [] [1, 3, 4, 5] hp rfl rfl rfl rfl) ⟨o ++ [⟨t, i, 0, wo.sym, true, lk⟩], i + 1, hin, rfl, by rw [@lA _ o, List.length_singleton]; omega, hoa1 _ rfl rfl, by rw [hw2, @lA _ o]; rfl, by rw [List.map_append]; rfl⟩
   ·repeat' (first | refine goR rfl ?_ | refine goS rfl ?_ | refine tret1 rfl ?_ | refine tretN rfl ?_ | refine gY rfl rfl ?_ | refine gN rfl rfl ?_ | refine qT rfl rfl ?_ | refine qF rfl rfl ?_ | refine qT rfl (dT (by omega)) ?_ | refine lT (tl_ixm rfl rfl rfl hx) ?_ | refine lT (tl_ixm rfl rfl rfl hy) ?_ | refine cA rfl (by rw [hP, hG]; exact r1) rfl ?_ | refine cA rfl (by rw [hP, hG]; exact r2) rfl ?_ | refine cA rfl (by rw [hP, hG]; exact r3) rfl ?_ | refine tr_append rfl rfl (by rw [lM]) (.inr (.inr ⟨_, _, _, _, rfl, rfl, rfl⟩)) (by simp only [List.length_cons, List.length_nil]; omega) rfl ?_ | fail)
    exact again (m' := ins.length - (i + 1)) (by omega) (w_canon 60 [] [1, 3, 4, 5] hp rfl rfl rfl rfl) ⟨o ++ [⟨t, i, 0, ro.sym, false, lk⟩], i + 1, hin, rfl, by rw [@lA _ o, List.length_singleton]; omega, hoa1 _ rfl rfl, by rw [hw2, @lA _ o]; rfl, by rw [List.map_append]; rfl⟩
   ·repeat' (first | refine goR rfl ?_ | refine goS rfl ?_ | refine tret1 rfl ?_ | refine tretN rfl ?_ | refine gY rfl rfl ?_ | refine gN rfl rfl ?_ | refine qT rfl rfl ?_ | refine qF rfl rfl ?_ | refine qT rfl (dT (by omega)) ?_ | refine lT (tl_ixm rfl rfl rfl hx) ?_ | refine lT (tl_ixm rfl rfl rfl hy) ?_ | refine cA rfl (by rw [hP, hG]; exact r1) rfl ?_ | refine cA rfl (by rw [hP, hG]; exact r2) rfl ?_ | refine cA rfl (by rw [hP, hG]; exact r3) rfl ?_ | refine tr_append rfl rfl (by simp only [lA, lM, List.length_cons, List.length_nil]) (.inr (.inr ⟨_, _, _, _, rfl, rfl, rfl⟩)) (by simp only [List.length_cons, List.length_nil]; omega) rfl ?_ | fail)
    exact again (m' := ins.length - (i + 1)) (by omega) (w_canon 60 [] [1, 3, 4, 5] hp rfl rfl rfl rfl) ⟨o ++ [⟨t, i, 0, ro.sym, false, lk⟩, ⟨t, i, 1, wo.sym, true, lk⟩], i + 1, hin, rfl, by rw [@lA _ o]; simp only [List.length_cons, List.length_nil]; omega, hoa2 _ _ rfl rfl rfl rfl, by rw [hw2, @lA _ o]; rfl, by rw [List.map_append, List.append_assoc]; rfl⟩
  ·repeat' (first | refine goR rfl ?_ | refine goS rfl ?_ | refine tret1 rfl ?_ | refine tretN rfl ?_ | refine gY rfl rfl ?_ | refine gN rfl rfl ?_ | refine qT rfl rfl ?_ | refine qF rfl rfl ?_ | refine qF rfl (dF (by omega)) ?_ | refine lT (tl_ixm rfl rfl rfl hx) ?_ | fail)
   exact again (m' := p.threads.length - (t + 1)) (by omega) (w_canon 60 [] [1, 3, 4] hp rfl rfl rfl rfl) ⟨o, t + 1, htn, rfl, by omega, hoa, by rw [hw1], rfl⟩
 ·repeat' (first | refine goR rfl ?_ | refine goS rfl ?_ | refine tret1 rfl ?_ | refine tretN rfl ?_ | refine gY rfl rfl ?_ | refine gN rfl rfl ?_ | refine qT rfl rfl ?_ | refine qF rfl rfl ?_ | refine qF rfl (dF (by omega)) ?_ | fail)
  exact ⟨rwA o, ⟨o, rfl, by omega, hoa⟩, .s _ 6 _ true _ 179 rfl (by rw [lM])⟩
set_option maxHeartbeats 20000000 in
theorem clash_x (a b : Acc) : PureX prog Tabs 138 [.agg (cAcc a), .agg (cAcc b)] QT := by
 obtain ⟨a1, a2, a3, a4, a5, a6⟩ := a
 obtain ⟨b1, b2, b3, b4, b5, b6⟩ := b
 refine PureX.at mixedOk F138 rfl fun C hP hG hp => goF ?_; simp only [F138, targEnv, Nat.zero_add, Nat.reduceAdd]
 cases a5 <;> (repeat' (first | refine goR rfl ?_ | refine goS rfl ?_ | refine tret1 rfl ?_ | refine tretN rfl ?_ | refine gY rfl rfl ?_ | refine gN rfl rfl ?_ | refine qT rfl rfl ?_ | refine qF rfl rfl ?_ | ((first | refine gS rfl (fun h => ?_) (fun h => ?_) | refine ts_cond rfl (fun h => ?_) (fun h => ?_)) <;> try simp only [bs0, beq_iff_eq] at h) | fail)) <;> exact ⟨_, ⟨_, rfl⟩, .fr rfl⟩
set_option maxHeartbeats 20000000 in
theorem follows_x (p : Prg) (hO : okL p) (a b : Acc) (ha : atL p a.th a.ins) (hb : atL p b.th b.ins) : PureX prog Tabs 139 [.agg (cPrg p), .agg (cAcc a), .agg (cAcc b)] QT := by
 obtain ⟨ho, hc, h64, hN⟩ := hO
 have ho3 := ho.2.2.2
 clear ho hc
 obtain ⟨a1, a2, a3, a4, a5, a6⟩ := a
 obtain ⟨b1, b2, b3, b4, b5, b6⟩ := b
 obtain ⟨t, i, ins, rfl, rfl, hx, hi⟩ := ha
 obtain ⟨u, j, jns, rfl, rfl, hy, hj⟩ := hb
 have hxm := List.mem_of_getElem? hx
 have cF := from_x ins (ho3 ins hxm) (Nat.le_trans (hN ins hxm) (by decide)) (i : Int)
 by_cases htu : t = u
 ·subst htu
  obtain rfl : ins = jns := by rw [hx] at hy; exact Option.some.inj hy
  clear ho3 hN
  refine PureX.at mixedOk F139 rfl fun C hP hG hp => goF ?_; simp only [F139, targEnv, Nat.zero_add, Nat.reduceAdd]
  repeat' (first | refine goR rfl ?_ | refine goS rfl ?_ | refine tret1 rfl ?_ | refine tretN rfl ?_ | refine gY rfl rfl ?_ | refine gN rfl rfl ?_ | refine qT rfl rfl ?_ | refine qF rfl rfl ?_ | refine qF rfl (ndF rfl) ?_ | (refine lT (tl_eqs (by rw [hP]; exact sh_access) (by rw [hP]; exact ag_access) (by rw [hP]; exact eg_access) rfl rfl rfl rfl rfl rfl) ?_; generalize beqL _ _ = eb; cases eb) | refine lT (tl_ixm rfl rfl rfl hx) ?_ | (refine tr_callX rfl (by rw [hP, hG]; exact cF) rfl ?_; rintro _ ⟨is, his, rfl⟩; have hg : is[j]? = some (is.getD j false) := by rw [List.getD_eq_getElem?_getD, List.getElem?_eq_getElem (by omega)]; rfl) | refine lT (tl_ixm rfl rfl rfl hg) ?_ | ((first | refine gS rfl (fun h => ?_) (fun h => ?_) | refine ts_cond rfl (fun h => ?_) (fun h => ?_)) <;> try simp only [bs0, beq_iff_eq] at h) | fail)
  all_goals exact ⟨_, ⟨_, rfl⟩, .fr rfl⟩
 ·refine PureX.at mixedOk F139 rfl fun C hP hG hp => goF ?_; simp only [F139, targEnv, Nat.zero_add, Nat.reduceAdd]
  repeat' (first | refine goR rfl ?_ | refine goS rfl ?_ | refine tret1 rfl ?_ | refine tretN rfl ?_ | refine gY rfl rfl ?_ | refine gN rfl rfl ?_ | refine qT rfl rfl ?_ | refine qF rfl rfl ?_ | refine qT rfl (ndT (fun h => htu (Int.ofNat.inj h))) ?_ | fail)
  exact ⟨_, ⟨_, rfl⟩, .fr rfl⟩
end
end Go.Proofs.YtnphhelbianjpaaGreatDoor
