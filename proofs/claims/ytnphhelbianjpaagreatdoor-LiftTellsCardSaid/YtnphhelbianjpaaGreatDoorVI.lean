/-
  The semantics of trees T: rows of pointers, numbers of objects by themselves.
-/
import Derived.Test.YtnphhelbianjpaaGreatDoorVH
set_option linter.all false
set_option linter.unusedSimpArgs false
set_option linter.unusedVariables false
set_option linter.unnecessarySimpa false
namespace Go.Proofs.YtnphhelbianjpaaGreatDoor.V
open Go Go.RowKit
section
variable {P : Program} {w0 : World} {env : TEnv} {σ : TS}
end
section
variable {C : Cx} {K : TK} {env : TEnv} {σ : TS} {rest : List ROp} {d : Nat} {q : Bool} {ks : List LOp}
end
end Go.Proofs.YtnphhelbianjpaaGreatDoor.V
namespace Go.Proofs.YtnphhelbianjpaaGreatDoor.V
open Go Go.RowKit
section
variable {C : Cx} {K : TK} {env : TEnv} {σ : TS} {rest : List ROp} {q : Bool} {ks : List LOp}

end
end Go.Proofs.YtnphhelbianjpaaGreatDoor.V
namespace Go.Proofs.YtnphhelbianjpaaGreatDoor.V
open Go Go.RowKit

inductive NT where
 | leaf (k : Nat)
 | node (k : Nat) (l r : NT)
def NT.get : NT → Nat → Option Nat
 | .leaf k, n => bif Nat.beq n k then some k else none
 | .node k l r, n => bif Nat.blt n k then l.get n else r.get n
theorem NT.get_eq : ∀ {t : NT} {n m : Nat}, t.get n = some m → n = m
 | .leaf k, n, m, h => by
  unfold NT.get at h
  cases hb : Nat.beq n k with
  | true => rw [hb] at h; cases h; exact Nat.eq_of_beq_eq_true hb
  | false => rw [hb] at h; cases h
 | .node k l r, n, m, h => by
  unfold NT.get at h
  cases hb : Nat.blt n k with
  | true => rw [hb] at h; exact NT.get_eq h
  | false => rw [hb] at h; exact NT.get_eq h
def litN (n : Nat) : Option Nat := NT.get (.node 128 (.node 64 (.node 32 (.node 16 (.node 8 (.node 4 (.node 2 (.node 1 (.leaf 0) (.leaf 1)) (.node 3 (.leaf 2) (.leaf 3))) (.node 6 (.node 5 (.leaf 4) (.leaf 5)) (.node 7 (.leaf 6) (.leaf 7)))) (.node 12 (.node 10 (.node 9 (.leaf 8) (.leaf 9)) (.node 11 (.leaf 10) (.leaf 11))) (.node 14 (.node 13 (.leaf 12) (.leaf 13)) (.node 15 (.leaf 14) (.leaf 15))))) (.node 24 (.node 20 (.node 18 (.node 17 (.leaf 16) (.leaf 17)) (.node 19 (.leaf 18) (.leaf 19))) (.node 22 (.node 21 (.leaf 20) (.leaf 21)) (.node 23 (.leaf 22) (.leaf 23)))) (.node 28 (.node 26 (.node 25 (.leaf 24) (.leaf 25)) (.node 27 (.leaf 26) (.leaf 27))) (.node 30 (.node 29 (.leaf 28) (.leaf 29)) (.node 31 (.leaf 30) (.leaf 31)))))) (.node 48 (.node 40 (.node 36 (.node 34 (.node 33 (.leaf 32) (.leaf 33)) (.node 35 (.leaf 34) (.leaf 35))) (.node 38 (.node 37 (.leaf 36) (.leaf 37)) (.node 39 (.leaf 38) (.leaf 39)))) (.node 44 (.node 42 (.node 41 (.leaf 40) (.leaf 41)) (.node 43 (.leaf 42) (.leaf 43))) (.node 46 (.node 45 (.leaf 44) (.leaf 45)) (.node 47 (.leaf 46) (.leaf 47))))) (.node 56 (.node 52 (.node 50 (.node 49 (.leaf 48) (.leaf 49)) (.node 51 (.leaf 50) (.leaf 51))) (.node 54 (.node 53 (.leaf 52) (.leaf 53)) (.node 55 (.leaf 54) (.leaf 55)))) (.node 60 (.node 58 (.node 57 (.leaf 56) (.leaf 57)) (.node 59 (.leaf 58) (.leaf 59))) (.node 62 (.node 61 (.leaf 60) (.leaf 61)) (.node 63 (.leaf 62) (.leaf 63))))))) (.node 96 (.node 80 (.node 72 (.node 68 (.node 66 (.node 65 (.leaf 64) (.leaf 65)) (.node 67 (.leaf 66) (.leaf 67))) (.node 70 (.node 69 (.leaf 68) (.leaf 69)) (.node 71 (.leaf 70) (.leaf 71)))) (.node 76 (.node 74 (.node 73 (.leaf 72) (.leaf 73)) (.node 75 (.leaf 74) (.leaf 75))) (.node 78 (.node 77 (.leaf 76) (.leaf 77)) (.node 79 (.leaf 78) (.leaf 79))))) (.node 88 (.node 84 (.node 82 (.node 81 (.leaf 80) (.leaf 81)) (.node 83 (.leaf 82) (.leaf 83))) (.node 86 (.node 85 (.leaf 84) (.leaf 85)) (.node 87 (.leaf 86) (.leaf 87)))) (.node 92 (.node 90 (.node 89 (.leaf 88) (.leaf 89)) (.node 91 (.leaf 90) (.leaf 91))) (.node 94 (.node 93 (.leaf 92) (.leaf 93)) (.node 95 (.leaf 94) (.leaf 95)))))) (.node 112 (.node 104 (.node 100 (.node 98 (.node 97 (.leaf 96) (.leaf 97)) (.node 99 (.leaf 98) (.leaf 99))) (.node 102 (.node 101 (.leaf 100) (.leaf 101)) (.node 103 (.leaf 102) (.leaf 103)))) (.node 108 (.node 106 (.node 105 (.leaf 104) (.leaf 105)) (.node 107 (.leaf 106) (.leaf 107))) (.node 110 (.node 109 (.leaf 108) (.leaf 109)) (.node 111 (.leaf 110) (.leaf 111))))) (.node 120 (.node 116 (.node 114 (.node 113 (.leaf 112) (.leaf 113)) (.node 115 (.leaf 114) (.leaf 115))) (.node 118 (.node 117 (.leaf 116) (.leaf 117)) (.node 119 (.leaf 118) (.leaf 119)))) (.node 124 (.node 122 (.node 121 (.leaf 120) (.leaf 121)) (.node 123 (.leaf 122) (.leaf 123))) (.node 126 (.node 125 (.leaf 124) (.leaf 125)) (.node 127 (.leaf 126) (.leaf 127)))))))) (.node 192 (.node 160 (.node 144 (.node 136 (.node 132 (.node 130 (.node 129 (.leaf 128) (.leaf 129)) (.node 131 (.leaf 130) (.leaf 131))) (.node 134 (.node 133 (.leaf 132) (.leaf 133)) (.node 135 (.leaf 134) (.leaf 135)))) (.node 140 (.node 138 (.node 137 (.leaf 136) (.leaf 137)) (.node 139 (.leaf 138) (.leaf 139))) (.node 142 (.node 141 (.leaf 140) (.leaf 141)) (.node 143 (.leaf 142) (.leaf 143))))) (.node 152 (.node 148 (.node 146 (.node 145 (.leaf 144) (.leaf 145)) (.node 147 (.leaf 146) (.leaf 147))) (.node 150 (.node 149 (.leaf 148) (.leaf 149)) (.node 151 (.leaf 150) (.leaf 151)))) (.node 156 (.node 154 (.node 153 (.leaf 152) (.leaf 153)) (.node 155 (.leaf 154) (.leaf 155))) (.node 158 (.node 157 (.leaf 156) (.leaf 157)) (.node 159 (.leaf 158) (.leaf 159)))))) (.node 176 (.node 168 (.node 164 (.node 162 (.node 161 (.leaf 160) (.leaf 161)) (.node 163 (.leaf 162) (.leaf 163))) (.node 166 (.node 165 (.leaf 164) (.leaf 165)) (.node 167 (.leaf 166) (.leaf 167)))) (.node 172 (.node 170 (.node 169 (.leaf 168) (.leaf 169)) (.node 171 (.leaf 170) (.leaf 171))) (.node 174 (.node 173 (.leaf 172) (.leaf 173)) (.node 175 (.leaf 174) (.leaf 175))))) (.node 184 (.node 180 (.node 178 (.node 177 (.leaf 176) (.leaf 177)) (.node 179 (.leaf 178) (.leaf 179))) (.node 182 (.node 181 (.leaf 180) (.leaf 181)) (.node 183 (.leaf 182) (.leaf 183)))) (.node 188 (.node 186 (.node 185 (.leaf 184) (.leaf 185)) (.node 187 (.leaf 186) (.leaf 187))) (.node 190 (.node 189 (.leaf 188) (.leaf 189)) (.node 191 (.leaf 190) (.leaf 191))))))) (.node 224 (.node 208 (.node 200 (.node 196 (.node 194 (.node 193 (.leaf 192) (.leaf 193)) (.node 195 (.leaf 194) (.leaf 195))) (.node 198 (.node 197 (.leaf 196) (.leaf 197)) (.node 199 (.leaf 198) (.leaf 199)))) (.node 204 (.node 202 (.node 201 (.leaf 200) (.leaf 201)) (.node 203 (.leaf 202) (.leaf 203))) (.node 206 (.node 205 (.leaf 204) (.leaf 205)) (.node 207 (.leaf 206) (.leaf 207))))) (.node 216 (.node 212 (.node 210 (.node 209 (.leaf 208) (.leaf 209)) (.node 211 (.leaf 210) (.leaf 211))) (.node 214 (.node 213 (.leaf 212) (.leaf 213)) (.node 215 (.leaf 214) (.leaf 215)))) (.node 220 (.node 218 (.node 217 (.leaf 216) (.leaf 217)) (.node 219 (.leaf 218) (.leaf 219))) (.node 222 (.node 221 (.leaf 220) (.leaf 221)) (.node 223 (.leaf 222) (.leaf 223)))))) (.node 240 (.node 232 (.node 228 (.node 226 (.node 225 (.leaf 224) (.leaf 225)) (.node 227 (.leaf 226) (.leaf 227))) (.node 230 (.node 229 (.leaf 228) (.leaf 229)) (.node 231 (.leaf 230) (.leaf 231)))) (.node 236 (.node 234 (.node 233 (.leaf 232) (.leaf 233)) (.node 235 (.leaf 234) (.leaf 235))) (.node 238 (.node 237 (.leaf 236) (.leaf 237)) (.node 239 (.leaf 238) (.leaf 239))))) (.node 248 (.node 244 (.node 242 (.node 241 (.leaf 240) (.leaf 241)) (.node 243 (.leaf 242) (.leaf 243))) (.node 246 (.node 245 (.leaf 244) (.leaf 245)) (.node 247 (.leaf 246) (.leaf 247)))) (.node 252 (.node 250 (.node 249 (.leaf 248) (.leaf 249)) (.node 251 (.leaf 250) (.leaf 251))) (.node 254 (.node 253 (.leaf 252) (.leaf 253)) (.node 255 (.leaf 254) (.leaf 255))))))))) n
theorem litN_eq {n m : Nat} (h : litN n = some m) : n = m := NT.get_eq h
def tabN : List Nat := [0, 1, 2, 3, 4, 5, 6, 7, 8, 9, 10, 11, 12, 13, 14, 15, 16, 17, 18, 19, 20, 21, 22, 23, 24, 25, 26, 27, 28, 29, 30, 31, 32, 33, 34, 35, 36, 37, 38, 39, 40, 41, 42, 43, 44, 45, 46, 47, 48, 49, 50, 51, 52, 53, 54, 55, 56, 57, 58, 59, 60, 61, 62, 63]

def kids1 : TV → Option Nat
 | .p k _ => some k
 | .e k _ _ _ => some k
 | .s k _ _ _ _ => some k
 | .m k => some k
 | _ => none
def kidsC : List TV → List Nat → List Nat
 | [], l => l
 | x :: r, l => match kids1 x with
  | some k => k :: kidsC r l
  | none => kidsC r l
def kidsL : List TV → List Nat
 | [] => []
 | x :: r => match kids1 x with
  | some k => k :: kidsL r
  | none => match x with
   | .agg cs => kidsC cs (kidsL r)
   | _ => kidsL r
def kidsT : List TV → List Nat
 | [] => []
 | .tup cs :: r => kidsL cs ++ kidsT r
 | x :: r => kidsL [x] ++ kidsT r
def kidsO : TObj → List Nat
 | .cells cs _ => kidsL cs
 | .ptrs ks _ => ks
 | _ => []
def dfs (objs : List (Nat × TObj)) : Nat → List Nat → List Nat → List Nat → Option (List (Nat × Nat))
 | 0, _, _, _ => none
 | _ + 1, _, [], _ => some []
 | n + 1, tab, k :: todo, seen => match litN k with
  | none => none
  | some k => bif seen.any (Nat.beq k) then dfs objs n tab todo seen else match look k objs with
   | none => none
   | some o => match tab with
    | [] => none
    | i :: tab => match dfs objs n tab (kidsO o ++ todo) (k :: seen) with
     | some l => some ((i, k) :: l)
     | none => none
def dfsN (σ : TS) (roots : List Nat) : Option (List (Nat × Nat)) := dfs σ.objs 100 tabN roots []

def bkOfL (next : Nat) (bk : List (Nat × Nat)) (pins : List Nat) : List (Nat × TObj) → Option (List (Nat × Nat))
 | [] => some []
 | (j, _) :: r => match litN j with
  | none => none
  | some j => match (bif pins.any (fun p => Nat.beq p j) then look j bk else litN (next + j)) with
   | none => none
   | some k => match bkOfL next bk pins r with
    | none => none
    | some l => some ((k, j) :: l)
theorem bkOfL_ok {σ : TS} {bk : List (Nat × Nat)} {pins : List Nat} : ∀ {objs : List (Nat × TObj)} {l : List (Nat × Nat)}, bkOfL σ.next bk pins objs = some l → BackOk σ bk pins l
 | [], l, h, i, j, hi => by cases h; cases hi
 | (j0, o) :: r, l, h, i, j, hi => by
  unfold bkOfL at h
  cases h0 : litN j0 with
  | none => rw [h0] at h; cases h
  | some j1 =>
   rw [h0] at h
   have := litN_eq h0
   subst this
   simp only at h
   cases h1 : (bif pins.any (fun p => Nat.beq p j0) then look j0 bk else litN (σ.next + j0)) with
   | none => rw [h1] at h; cases h
   | some k =>
    rw [h1] at h
    simp only at h
    cases h2 : bkOfL σ.next bk pins r with
    | none => rw [h2] at h; cases h
    | some l' =>
     rw [h2] at h
     cases h
     rw [look_cons] at hi
     split at hi
     ·rename_i e
      cases hi
      subst e
      cases hp : pins.any (fun p => Nat.beq p j0) with
      | false =>
       rw [hp, cond_false] at h1
       exact .inl (litN_eq h1).symm
      | true =>
       rw [hp, cond_true] at h1
       obtain ⟨p, hp1, hp2⟩ := List.any_eq_true.1 hp
       have := Nat.eq_of_beq_eq_true hp2
       subst this
       exact .inr ⟨hp1, h1⟩
     ·exact bkOfL_ok h2 i j hi

section
variable {C : Cx} {K : TK} {env : TEnv} {σ : TS} {rest : List ROp} {d : Option Nat} {ks : List LOp} {q : Bool}
theorem tr_mcallX {P : Program} {G : World → Prop} {f : FuncId} {args : List Operand} {l lc : List TV} {σc : TS} {pins : List Nat} {R r' : TV} {S : TS} {bk bk2 : List (Nat × Nat)} {n : Nat} {objs objs' rest' : List (Nat × TObj)} (hP : C.P = P) (hG : C.G = G) (hT : TC P G f lc σc pins (fun r σ' => r = R ∧ σ' = S)) (ha : targs env args = some l)
  (hbk : dfsN σ (kidsT l) = some bk)
  (hL : rnAll (rnT bk) l = some lc) (hS : rnS bk σ bk = some σc.objs) (h2 : bkOfL σ.next bk pins S.objs = some bk2) (h3 : litN (σ.next + S.next) = some n)
  (hb : (injB bk && bk.all (fun p => Nat.blt p.1 σc.next) && bk.all (fun p => (σ.get p.2).isSome) && pins.all (fun j => (look j bk).isSome) && injB bk2) = true) (hks : (!q || ks.all (farT env σ bk)) = true)
  (hR : rnT bk2 R = some r') (hO : rnS bk2 S bk2 = some objs) (hr : spine (restL bk σ.objs) = some rest') (ho : spine (objs ++ rest') = some objs')
  (h : TwR C rest K (putT d r' env) ⟨objs', n⟩) : TwR C (⟨d, none, .call (.fn f) args, q, ks⟩ :: rest) K env σ := by
 simp only [Bool.and_eq_true] at hb
 obtain ⟨⟨⟨⟨h1, h2'⟩, h3'⟩, h4⟩, h5⟩ := hb
 subst hP hG
 have e3 := litN_eq h3
 subst e3
 refine tr_mcall ha bk h1 h2' (rnAll_ok rnT_ok hL) (rnS_ok hS) hT (fun p hp => List.all_eq_true.1 h3' p hp) (fun j hj => List.all_eq_true.1 h4 j hj) (restL bk σ.objs) (restOk bk) (fun hq => by rw [hq] at hks; exact hks) ?_
 rintro r σ' ⟨rfl, rfl⟩
 refine ⟨_, r', objs, bkOfL_ok h2, h5, rnT_ok hR, rnS_ok hO, ?_⟩
 rw [spine_eq hr, spine_eq ho]
 exact h

theorem tr_mcallV {P : Program} {G : World → Prop} {f : FuncId} {args : List Operand} {l l' : List TV} {n0 n : Nat} {R r' : TV} {S : TS} {bk2 : List (Nat × Nat)} {objs objs' : List (Nat × TObj)} (hP : C.P = P) (hG : C.G = G) (hT : TC P G f l' ⟨[], n0⟩ [] (fun r σ' => r = R ∧ σ' = S)) (ha : targs env args = some l) (hz : FzL σ l l')
  (h2 : bkOfL σ.next [] [] S.objs = some bk2) (h3 : litN (σ.next + S.next) = some n) (hb : injB bk2 = true) (hR : rnT bk2 R = some r') (hO : rnS bk2 S bk2 = some objs) (hs : selfT r' = true) (hso : ∀ k o, look k objs = some o → selfO o = true) (ho : spine (objs ++ σ.objs) = some objs')
  (h : TwR C rest K (putT d r' env) ⟨objs', n⟩) : TwR C (⟨d, none, .call (.fn f) args, q, ks⟩ :: rest) K env σ := by
 subst hP hG
 have e3 := litN_eq h3
 subst e3
 refine tr_mcallL ha hz hT ?_
 rintro r σ' ⟨rfl, rfl⟩
 refine ⟨_, r', objs, fun i j hij => ?_, hb, rnT_ok hR, rnS_ok hO, hs, hso, ?_⟩
 ·rcases bkOfL_ok (bk := []) (pins := []) h2 i j hij with h | ⟨h, _⟩
  ·exact h
  ·cases h
 ·rw [spine_eq ho]; exact h

def rnE (bk : List (Nat × Nat)) (env : TEnv) : List Nat → Option TEnv
 | [] => some []
 | t :: r => match look t env with
  | some x => match rnT bk x with
   | some y => match rnE bk env r with
    | some l => some ((t, y) :: l)
    | none => none
   | none => none
  | none => none
theorem rnE_ok {bk : List (Nat × Nat)} : ∀ {l : List Nat} {e : TEnv}, rnE bk env l = some e → RenE bk env e
 | [], e, h => by cases h; exact .nil
 | t :: r, e, h => by
  unfold rnE at h
  cases h1 : look t env with
  | none => rw [h1] at h; cases h
  | some x =>
   rw [h1] at h
   simp only at h
   cases h2 : rnT bk x with
   | none => rw [h2] at h; cases h
   | some y =>
    rw [h2] at h
    simp only at h
    cases h3 : rnE bk env r with
    | none => rw [h3] at h; cases h
    | some l => rw [h3] at h; cases h; exact .cons t x y l h1 (rnT_ok h2) (rnE_ok h3)
def keysV (env : TEnv) : List Nat → List TV
 | [] => []
 | t :: r => match look t env with
  | some x => x :: keysV env r
  | none => keysV env r
theorem w_canon (n : Nat) (roots keys : List Nat) {bk : List (Nat × Nat)} {pins : List Nat} {env' : TEnv} {objs : List (Nat × TObj)} (hp : C.pins = pins) (hbk : dfsN σ (roots ++ kidsT (keysV env keys)) = some bk)
  (hb : (injB bk && bk.all (fun p => Nat.blt p.1 n) && pins.all (fun j => match look j bk with
   | some k => Nat.beq k j
   | none => false)) = true) (hE : rnE bk env keys = some env') (hS : rnS bk σ bk = some objs) : Weak C env σ env' ⟨objs, n⟩ := by
 simp only [Bool.and_eq_true] at hb
 obtain ⟨⟨h1, h2⟩, h3⟩ := hb
 refine w_ren bk h1 (fun j hj => ?_) h2 (rnE_ok hE) (rnS_ok hS)
 rw [hp] at hj
 have := List.all_eq_true.1 h3 j hj
 cases hl : look j bk with
 | none => rw [hl] at this; cases this
 | some k => rw [hl] at this; rw [Nat.eq_of_beq_eq_true this]
theorem w_frzS (t : Nat) {k sz n : Nat} {c : Bool} {xs : List (List TV)} {ty : TypeId} (hd : look t env = some (.s k sz 0 n c)) (hk : σ.get k = some (.rows sz xs ty)) (hn : n = xs.length) : Weak C env σ ((t, .lst sz xs) :: env) (σ.del k) := w_freeze hd hk (.s n c hn)
theorem tr_frzS (t : Nat) {rs : List ROp} {k sz n : Nat} {c : Bool} {xs : List (List TV)} {ty : TypeId} (hd : look t env = some (.s k sz 0 n c)) (hk : σ.get k = some (.rows sz xs ty)) (hn : n = xs.length) (h : TwR C rs K ((t, .lst sz xs) :: env) (σ.del k)) : TwR C rs K env σ :=
 tr_weak (w_freeze hd hk (.s n c hn)) h
theorem tr_frzA (t i : Nat) {rs : List ROp} {k sz n : Nat} {c : Bool} {cs : List TV} {xs : List (List TV)} {ty : TypeId} (hd : look t env = some (.agg cs)) (hi : cs[i]? = some (.s k sz 0 n c)) (hk : σ.get k = some (.rows sz xs ty)) (hn : n = xs.length) (h : TwR C rs K ((t, .agg (cs.set i (.lst sz xs))) :: env) (σ.del k)) : TwR C rs K env σ := by
 refine tr_weak (w_freeze hd hk (.agg cs (cs.set i (.lst sz xs)) (List.length_set ..).symm fun j x y hx hy => ?_)) h
 rw [List.getElem?_set] at hy
 split at hy
 ·rename_i e
  subst e
  rw [hi] at hx; cases hx
  split at hy
  ·cases hy; exact .s n c hn
  ·cases hy
 ·rw [hx] at hy; cases hy; exact .refl _
theorem w_freezeP (d : Nat) {k off : Nat} {cs : List TV} {ty : TypeId} (hd : look d env = some (.p k off)) (hk : σ.get k = some (.cells cs ty)) (hf : cs.all frozV = true) : Weak C env σ ((d, .fp cs off) :: env) (σ.del k) := by
 intro venv st Φ ν hr
 have hs := hr.sim
 have hst : ∀ {x v}, TRel C.w0 st Φ ν x v → TRel C.w0 st (fun b => Φ b ∨ ν k = some (some b)) ν x v := fun hv => hv.stable (fun _ h => .inl h) (fun _ _ => rfl) (fun _ _ h => h)
 have henv : TE C.w0 st (fun b => Φ b ∨ ν k = some (some b)) ν ((d, .fp cs off) :: env) venv := by
  intro t z ht
  rw [look_cons] at ht
  split at ht
  ·rename_i e
   cases ht; subst e
   obtain ⟨v, h1, h2⟩ := hr.env t _ hd
   refine ⟨v, h1, .f _ _ ?_⟩
   obtain ⟨b, hb, rfl⟩ := h2.p_inv
   rcases hs.has hk with ⟨_, _, _, q2⟩ | ⟨b', bk, q1, q2, q3⟩
   ·cases q2
   ·rw [hb] at q1; cases q1
    cases bk with
    | cells vs ty' =>
     have hl := q3.2.len
     have hc := cellsAt_mine (hs.lt hb).1 q2 (show 0 + cs.length ≤ vs.length by omega)
     rw [List.drop_zero, List.take_of_length_le (by omega)] at hc
     have := FRel.fp (w0 := C.w0) (st := st) (Φ := fun b => Φ b ∨ ν k = some (some b)) cs off b 0 vs (.inr (.inr hb)) hc (fun j y z hy hz => (frozV_rel (List.all_eq_true.1 hf y (List.mem_of_getElem? hy)) (q3.2.rel j y z hy hz)).stable (fun _ h => .inl h) fun _ _ => rfl)
     rwa [Nat.zero_add] at this
    | _ => exact q3.elim
  ·obtain ⟨v, h1, h2⟩ := hr.env t z ht
   exact ⟨v, h1, hst h2⟩
 refine ⟨fun b => Φ b ∨ ν k = some (some b), ν, ?_, henv, hr.next, hr.frame, hr.mine, hr.pin, fun b hb => .inl (hr.phi0 b hb), ?_⟩
 ·cases hv : ν k with
  | none => exact absurd (hs.obj k _ hk) (by rw [hv]; exact id)
  | some r =>
   cases r with
   | none =>
    have h1 := hs.drop k
    have e : (fun b => Φ b ∨ (some none : Option (Option Nat)) = some (some b)) = Φ := by funext b; simp
    rw [e]; exact h1
   | some b =>
    have h1 := hs.freeze (by rw [hk]; rfl) hv
    have e : (fun c => Φ c ∨ (some (some b) : Option (Option Nat)) = some (some c)) = fun c => Φ c ∨ c = b := by
     funext c; simp only [Option.some.injEq, eq_comm]
    rw [e]; exact h1
 ·rintro b (h | h)
  ·exact hr.phi b h
  ·exact .inr (hr.mine k b h)
theorem tretX (n : Nat) (roots : List Nat) {rs : List (Nat × Option (Nat × Bool))} {R : TV → TS → Prop} {vs : List TV} {r : TV} {bk : List (Nat × Nat)} {pins : List Nat} {objs : List (Nat × TObj)} (hl : tresAll env σ rs = some vs) (hp : C.pins = pins)
  (hbk : dfsN σ (roots ++ kidsT [tresV vs]) = some bk) (hb : (injB bk && bk.all (fun p => Nat.blt p.1 n) && pins.all (fun j => match look j bk with
   | some k => Nat.beq k j
   | none => false)) = true) (hE : rnT bk (tresV vs) = some r) (hS : rnS bk σ bk = some objs) (h : R r ⟨objs, n⟩) : At C (retW C rs R) (.out .ret) [] env σ :=
 twret hl (w_canon n roots [0] (env' := [(0, r)]) hp hbk hb (by
  show (match rnT bk (tresV vs) with
   | some y => some [(0, y)]
   | none => none) = _
  rw [hE]) hS) h
end
end Go.Proofs.YtnphhelbianjpaaGreatDoor.V
namespace Go.Proofs.YtnphhelbianjpaaGreatDoor.V
open Go Go.RowKit
theorem ndF {p : Prop} [Decidable p] (h : p) : (!decide p) = false := by simp [h]
theorem ndT {p : Prop} [Decidable p] (h : ¬ p) : (!decide p) = true := by simp [h]
section
variable {C : Cx} {K : TK} {env : TEnv} {σ : TS} {rest : List ROp} {d : Option Nat} {q : Bool} {ks : List LOp} {i : Nat} {w b : Bool} {o : COp}
theorem tg_f (hi : look i env = some (.v (.bool b))) (hb : b = false) (h : TwR C (⟨d, some (i, w), o, q, ks⟩ :: rest) K ((i, .v (.bool false)) :: env) σ) : TwR C (⟨d, some (i, w), o, q, ks⟩ :: rest) K env σ :=
 gS hi (fun ht => by rw [hb] at ht; cases ht) fun _ => h
theorem tg_t (hi : look i env = some (.v (.bool b))) (hb : b = true) (h : TwR C (⟨d, some (i, w), o, q, ks⟩ :: rest) K ((i, .v (.bool true)) :: env) σ) : TwR C (⟨d, some (i, w), o, q, ks⟩ :: rest) K env σ :=
 gS hi (fun _ => h) fun hf => by rw [hb] at hf; cases hf
end
end Go.Proofs.YtnphhelbianjpaaGreatDoor.V
namespace Go.Proofs.YtnphhelbianjpaaGreatDoor.V
open Go Go.RowKit
section
variable {α β : Type}
def kN (n : Nat) (k : Nat → α) : α := match litN n with
 | some m => k m
 | none => bif Nat.beq n 128 then k 128 else k n
def kB (b : Bool) (k : Bool → α) : α := match b with
 | true => k true
 | false => k false
def kL (f : β → (β → α) → α) : List β → (List β → α) → α
 | [], k => k []
 | x :: r, k => f x fun x => kL f r fun r => k (x :: r)
def kW : List UInt8 → (List Nat → α) → α
 | [], k => k []
 | u :: r, k => kN u.toNat fun n => kW r fun r => k (n :: r)
def kU (s : ByteArray) (k : ByteArray → α) : α := match s with
 | ⟨⟨l⟩⟩ => kW l fun l => k (bs l)
def kV (v : Value) (k : Value → α) : α := match v with
 | .int j n => k (.int j n)
 | .bool b => kB b fun b => k (.bool b)
 | .string s => kU s fun s => k (.string s)
 | v => k v
def kQ (x : Operand) (k : Operand → α) : α := match x with
 | .tmp t => k (.tmp t)
 | .const v => kV v fun v => k (.const v)
 | x => k x
def kP (q : Nat × Operand) (k : Nat × Operand → α) : α := match q with
 | (i, x) => kN i fun i => kQ x fun x => k (i, x)
def kNN (q : Nat × Nat) (k : Nat × Nat → α) : α := match q with
 | (i, j) => kN i fun i => kN j fun j => k (i, j)
def kOp (q : Option Operand) (k : Option Operand → α) : α := match q with
 | none => k none
 | some x => kQ x fun x => k (some x)
def kLO (l : LOp) (k : LOp → α) : α := match l with
 | .mov x => kQ x fun x => k (.mov x)
 | .pick c a b => kQ c fun c => kQ a fun a => kQ b fun b => k (.pick c a b)
 | .bin op t x y => kQ x fun x => kQ y fun y => k (.bin op t x y)
 | .eqp n x y => kB n fun n => kQ x fun x => kQ y fun y => k (.eqp n x y)
 | .un op x => kQ x fun x => k (.un op x)
 | .conv s d x => kQ x fun x => k (.conv s d x)
 | .idxS t x i => kQ x fun x => kQ i fun i => k (.idxS t x i)
 | .slS t x lo hi => kQ x fun x => kOp lo fun lo => kOp hi fun hi => k (.slS t x lo hi)
 | .slc s x lo hi => kN s fun s => kQ x fun x => kOp lo fun lo => kOp hi fun hi => k (.slc s x lo hi)
 | .slA n s x => kN n fun n => kN s fun s => kQ x fun x => k (.slA n s x)
 | .len x => kQ x fun x => k (.len x)
 | .lenS x => kQ x fun x => k (.lenS x)
 | .nilchk x => kQ x fun x => k (.nilchk x)
 | .fa o x => kN o fun o => kQ x fun x => k (.fa o x)
 | .iaS s x i => kN s fun s => kQ x fun x => kQ i fun i => k (.iaS s x i)
 | .iaA n s x i => kN n fun n => kN s fun s => kQ x fun x => kQ i fun i => k (.iaA n s x i)
 | .ld n b x => kN n fun n => kB b fun b => kQ x fun x => k (.ld n b x)
 | .fld o n b x => kN o fun o => kN n fun n => kB b fun b => kQ x fun x => k (.fld o n b x)
 | .ext i x => kN i fun i => kQ x fun x => k (.ext i x)
 | .bld z p q => kL kV z fun z => kL kNN p fun p => kL kP q fun q => k (.bld z p q)
 | .mkI t x => kQ x fun x => k (.mkI t x)
 | .asrt t z x => kV z fun z => kQ x fun x => k (.asrt t z x)
 | .look s z o x i => kB s fun s => kV z fun z => kB o fun o => kQ x fun x => kQ i fun i => k (.look s z o x i)
 | .b2s x => kQ x fun x => k (.b2s x)
 | .min2 x y => kQ x fun x => kQ y fun y => k (.min2 x y)
 | .clo g l => kL kQ l fun l => k (.clo g l)
def kAO (a : AOp) (k : AOp → α) : α := match a with
 | .cells cs t => kL kV cs fun cs => k (.cells cs t)
 | .box n t x => kN n fun n => kQ x fun x => k (.box n t x)
 | .row t s l z p => kN s fun s => kN l fun l => kL kV z fun z => kL kP p fun p => k (.row t s l z p)
 | .make t s b z l c => kN s fun s => kN b fun b => kL kV z fun z => kQ l fun l => kQ c fun c => k (.make t s b z l c)
 | .mkmap => k .mkmap
 | .iter x => kQ x fun x => k (.iter x)
def kHO (h : HOp) (k : HOp → α) : α := match h with
 | .store n x v => kN n fun n => kQ x fun x => kQ v fun v => k (.store n x v)
 | .append t s b x y => kN s fun s => kN b fun b => kQ x fun x => kQ y fun y => k (.append t s b x y)
 | .appendZ t s b z x y => kN s fun s => kN b fun b => kL kV z fun z => kQ x fun x => kQ y fun y => k (.appendZ t s b z x y)
 | .copy s x y => kN s fun s => kQ x fun x => kQ y fun y => k (.copy s x y)
 | .mapset s m x v => kB s fun s => kQ m fun m => kQ x fun x => kQ v fun v => k (.mapset s m x v)
 | .next x => kQ x fun x => k (.next x)
def kC (c : CFn) (k : CFn → α) : α := match c with
 | .fn f => k (.fn f)
 | .val x => kQ x fun x => k (.val x)
def kCO (o : COp) (k : COp → α) : α := match o with
 | .light l => kLO l fun l => k (.light l)
 | .alloc a => kAO a fun a => k (.alloc a)
 | .heavy h => kHO h fun h => k (.heavy h)
 | .call f l => kC f fun f => kL kQ l fun l => k (.call f l)
def kON (q : Option Nat) (k : Option Nat → α) : α := match q with
 | none => k none
 | some x => k (some x)
def kG (q : Option (Nat × Bool)) (k : Option (Nat × Bool) → α) : α := match q with
 | none => k none
 | some (t, b) => kB b fun b => k (some (t, b))
def kR (r : ROp) (k : ROp → α) : α := match r with
 | ⟨d, g, o, q, l⟩ => kON d fun d => kG g fun g => kCO o fun o => kB q fun q => kL kLO l fun l => k ⟨d, g, o, q, l⟩
def kS : S → (S → α) → α
 | .nop, k => k .nop
 | .seq a b, k => kS a fun a => kS b fun b => k (.seq a b)
 | .cond c a b, k => kQ c fun c => kS a fun a => kS b fun b => k (.cond c a b)
 | .block i a, k => kS a fun a => k (.block i a)
 | .loop a, k => kS a fun a => k (.loop a)
 | .exit i, k => k (.exit i)
 | .ret, k => k .ret
 | .reg rs, k => kL kR rs fun rs => k (.reg rs)
def kT (q : Nat × Option (Nat × Bool)) (k : Nat × Option (Nat × Bool) → α) : α := match q with
 | (t, none) => k (t, none)
 | (t, some (n, b)) => kN n fun n => kB b fun b => k (t, some (n, b))
def kF (f : FS) (k : FS → α) : α := match f with
 | ⟨p, s, r⟩ => kN p fun p => kS s fun s => kL kT r fun r => k ⟨p, s, r⟩
theorem kB_eq (b : Bool) (k : Bool → α) : kB b k = k b := by cases b <;> rfl
theorem kL_eq {f : β → (β → α) → α} (h : ∀ x k, f x k = k x) : ∀ (l : List β) (k : List β → α), kL f l k = k l
 | [], _ => rfl
 | x :: r, k => by rw [kL, h, kL_eq h r]
theorem kN_eq (n : Nat) (k : Nat → α) : kN n k = k n := by
 unfold kN
 cases h : litN n with
 | some m => rw [litN_eq h]
 | none =>
  simp only
  cases hb : Nat.beq n 128 with
  | true => rw [Nat.eq_of_beq_eq_true hb]; rfl
  | false => rfl
theorem kW_eq : ∀ (l : List UInt8) (k : List Nat → α), kW l k = k (l.map UInt8.toNat)
 | [], _ => rfl
 | u :: r, k => by rw [kW, kN_eq, kW_eq r]; rfl
theorem kU_eq (s : ByteArray) (k : ByteArray → α) : kU s k = k s := by
 obtain ⟨⟨l⟩⟩ := s
 rw [kU, kW_eq, bs, List.map_map, show (UInt8.ofNat ∘ UInt8.toNat) = id from funext fun u => UInt8.ofNat_toNat, List.map_id]
theorem kV_eq (v : Value) (k : Value → α) : kV v k = k v := by cases v <;> simp only [kV, kB_eq, kU_eq]
theorem kQ_eq (x : Operand) (k : Operand → α) : kQ x k = k x := by cases x <;> simp only [kQ, kV_eq]
theorem kP_eq (x : Nat × Operand) (k : Nat × Operand → α) : kP x k = k x := by simp only [kP, kN_eq, kQ_eq]
theorem kNN_eq (q : Nat × Nat) (k : Nat × Nat → α) : kNN q k = k q := by simp only [kNN, kN_eq]
theorem kOp_eq (x : Option Operand) (k : Option Operand → α) : kOp x k = k x := by cases x <;> simp only [kOp, kQ_eq]
theorem kLO_eq (l : LOp) (k : LOp → α) : kLO l k = k l := by
 cases l <;> simp only [kLO, kN_eq, kQ_eq, kB_eq, kOp_eq, kV_eq, kL_eq kV_eq, kL_eq kP_eq, kL_eq kNN_eq, kL_eq kQ_eq]
theorem kAO_eq (l : AOp) (k : AOp → α) : kAO l k = k l := by
 cases l <;> simp only [kAO, kN_eq, kQ_eq, kL_eq kV_eq, kL_eq kP_eq]
theorem kHO_eq (l : HOp) (k : HOp → α) : kHO l k = k l := by
 cases l <;> simp only [kHO, kN_eq, kQ_eq, kB_eq, kL_eq kV_eq]
theorem kC_eq (c : CFn) (k : CFn → α) : kC c k = k c := by cases c <;> simp only [kC, kQ_eq]
theorem kCO_eq (l : COp) (k : COp → α) : kCO l k = k l := by
 cases l <;> simp only [kCO, kLO_eq, kAO_eq, kHO_eq, kC_eq, kL_eq kQ_eq]
theorem kON_eq (x : Option Nat) (k : Option Nat → α) : kON x k = k x := by cases x <;> rfl
theorem kG_eq (x : Option (Nat × Bool)) (k : Option (Nat × Bool) → α) : kG x k = k x := by
 cases x with
 | none => rfl
 | some p => simp only [kG, kB_eq]
theorem kR_eq (r : ROp) (k : ROp → α) : kR r k = k r := by
 simp only [kR, kON_eq, kG_eq, kCO_eq, kB_eq, kL_eq kLO_eq]
theorem kS_eq : ∀ (s : S) (k : S → α), kS s k = k s
 | .nop, _ => rfl
 | .seq a b, k => by rw [kS, kS_eq a, kS_eq b]
 | .cond c a b, k => by rw [kS, kQ_eq, kS_eq a, kS_eq b]
 | .block i a, k => by rw [kS, kS_eq a]
 | .loop a, k => by rw [kS, kS_eq a]
 | .exit i, k => rfl
 | .ret, _ => rfl
 | .reg rs, k => by rw [kS, kL_eq kR_eq]
theorem kT_eq (q : Nat × Option (Nat × Bool)) (k : Nat × Option (Nat × Bool) → α) : kT q k = k q := by
 obtain ⟨t, _ | ⟨n, b⟩⟩ := q <;> simp only [kT, kN_eq, kB_eq]
theorem kF_eq (f : FS) (k : FS → α) : kF f k = k f := by
 simp only [kF, kN_eq, kS_eq, kL_eq kT_eq]
end
def compN (P : Program) (n : FuncId) : Option FS := match P.funcs[n]? with
 | some fn => match compF P fn with
  | some s => kF s some
  | none => none
 | none => none
def nameN (P : Program) (n : FuncId) : Bool := match P.funcs[n]? with
 | some fn => !(fn.name == "runtime.NumGoroutine")
 | none => false
structure CF (P : Program) (n : FuncId) where
 s : FS
 ok : compN P n = some s
 nm : nameN P n = true
theorem CF.get {P : Program} {n : FuncId} (c : CF P n) : ∃ fn, P.funcs[n]? = some fn ∧ (fn.name == "runtime.NumGoroutine") = false ∧ compF P fn = some c.s := by
 obtain ⟨s, h, k⟩ := c
 unfold compN at h
 unfold nameN at k
 cases hf : P.funcs[n]? with
 | none => rw [hf] at h; cases h
 | some fn =>
  rw [hf] at h k
  simp only at h k
  refine ⟨fn, rfl, by simpa using k, ?_⟩
  cases hs : compF P fn with
  | none => rw [hs] at h; cases h
  | some s' =>
   rw [hs] at h
   simp only [kF_eq] at h
   exact h
theorem Pure.at {P : Program} {G : World → Prop} (hm : P.follows .mixedOrders = true) {n : FuncId} (c : CF P n) {args : List TV} (hl : args.length = c.s.params) {r : TV}
  (h : ∀ C : Cx, C.P = P → C.G = G → C.pins = [] → TwS C c.s.body (retT c.s.results fun v σ => Fz σ v r) (targEnv 0 args) ⟨[], 0⟩) : Pure P G n args r := by
 obtain ⟨fn, h1, h2, h3⟩ := c.get
 exact Pure.of hm h1 h2 h3 hl h
theorem TC.at {P : Program} {G : World → Prop} (hm : P.follows .mixedOrders = true) {n : FuncId} (c : CF P n) {args : List TV} (hl : args.length = c.s.params)
  {σ : TS} {pins : List Nat} {Q : TV → TS → Prop} (h : ∀ C : Cx, C.P = P → C.G = G → C.pins = pins → TwS C c.s.body (retW C c.s.results Q) (targEnv 0 args) σ) : TC P G n args σ pins Q := by
 obtain ⟨fn, h1, h2, h3⟩ := c.get
 exact TC.of hm h1 h2 h3 hl h
end Go.Proofs.YtnphhelbianjpaaGreatDoor.V
namespace Go.Proofs.YtnphhelbianjpaaGreatDoor.V
open Go Go.RowKit
section
variable {C : Cx} {env : TEnv} {σ : TS}
end
end Go.Proofs.YtnphhelbianjpaaGreatDoor.V
namespace Go.Proofs.YtnphhelbianjpaaGreatDoor.V
open Go Go.RowKit
section
variable {P : Program} {w0 : World} {env : TEnv} {σ : TS}
end
section
variable {C : Cx} {K : TK} {env : TEnv} {σ : TS} {rest : List ROp} {d : Nat} {q : Bool} {ks : List LOp}
end
end Go.Proofs.YtnphhelbianjpaaGreatDoor.V
namespace Go.Proofs.YtnphhelbianjpaaGreatDoor.V
open Go Go.RowKit
section
variable {C : Cx} {K : TK} {env : TEnv} {σ : TS} {rest : List ROp} {d : Option Nat} {q : Bool} {ks : List LOp}
end
end Go.Proofs.YtnphhelbianjpaaGreatDoor.V
namespace Go.Proofs.YtnphhelbianjpaaGreatDoor.V
open Go Go.RowKit
section
variable {C : Cx} {K : TK} {env : TEnv} {σ : TS} {rest : List ROp} {d : Option Nat} {ks : List LOp} {q : Bool}
end
end Go.Proofs.YtnphhelbianjpaaGreatDoor.V
namespace Go.Proofs.YtnphhelbianjpaaGreatDoor.V
open Go Go.RowKit
section
variable {w0 : World} {st : St} {Φ : Nat → Prop} {ν : Nu}
theorem TRel.fn_inv {g : FuncId} {cs : List TV} {v : Value} (h : TRel w0 st Φ ν (.fn g cs) v) : ∃ vs : Array Value, v = .func (.func g) #[] vs ∧ RelF w0 st Φ cs vs.toList := by
 cases h with
 | f _ _ h =>
  cases h with
  | fn _ _ vs h1 h2 => exact ⟨vs, rfl, by simpa using h1, fun i x y hx hy => h2 i x y hx (by simpa using hy)⟩
end
section
variable {C : Cx} {K : TK} {env : TEnv} {σ : TS} {rest : List ROp} {d : Option Nat} {q : Bool} {ks : List LOp}
theorem targs_evalF {venv : Env} {args : List Operand} {l : List TV} (h : frozAll l = true) {w0 : World} {st : St} {Φ : Nat → Prop} {ν : Nu} {vs : List Value} (h2 : RelL w0 st Φ ν l vs) : RelF w0 st Φ l vs :=
 ⟨h2.len, fun i x y hx hy => frozV_rel (frozAll_mem h x (List.mem_of_getElem? hx)) (h2.rel i x y hx hy)⟩
theorem tl_clo {P : Program} {w0 : World} {g : FuncId} {caps : List Operand} {cs : List TV} (ha : targs env caps = some cs) (hf : frozAll cs = true) : TL P w0 env σ (.clo g caps) (.fn g cs) := by
 intro venv st Φ ν hs hr
 obtain ⟨vs, h1, h2⟩ := targs_sound hr ha
 have h3 := targs_evalF (venv := venv) (args := caps) hf h2
 exact ⟨_, by simp only [LOp.eval, h1, Option.map_some], .f _ _ (.fn g cs vs.toArray (by simpa using h3.len) fun i x y hx hy => h3.rel i x y hx (by simpa using hy))⟩
theorem tr_callC {x : Operand} {args : List Operand} {g : FuncId} {cs l : List TV} {r : TV} (hx : tO env x = some (.fn g cs)) (ha : targs env args = some l) (hp : Pure C.P C.G g (l ++ cs) r) (hf : frozAll l = true)
  (h : TwR C rest K (putT d r env) σ) : TwR C (⟨d, none, .call (.val x) args, q, ks⟩ :: rest) K env σ := by
 intro venv st Φ ν hr
 refine ⟨fun _ => ?_, fun h => by simp at h⟩
 obtain ⟨vs, h1, h2⟩ := targs_sound hr.env ha
 have h3 := targs_evalF (venv := venv) (args := args) hf h2
 obtain ⟨u, h4, h5⟩ := tO_sound hr.env hx
 obtain ⟨cv, rfl, h6⟩ := h5.fn_inv
 have h7 : RelF C.w0 st Φ (l ++ cs) (vs ++ cv.toList) := by
  refine ⟨by simp [h3.len, h6.len], fun i x y hx hy => ?_⟩
  have hl := h3.len
  by_cases hi : i < l.length
  ·rw [List.getElem?_append_left hi] at hx
   rw [List.getElem?_append_left (by omega)] at hy
   exact h3.rel i x y hx hy
  ·rw [List.getElem?_append_right (by omega)] at hx
   rw [List.getElem?_append_right (by omega), ← hl] at hy
   exact h6.rel _ x y hx hy
 simp only [COp.step, evalC, h4, h1]
 refine (hp C.w0 st Φ _ C.hG hr.sim.ok hr.sim.fro h7).mono' fun v st' hv ho hn => ⟨fun _ => .inl hv.2, ?_⟩
 exact h _ _ _ _ ((hr.le ho hv.2).putO (.f _ _ hv.1) d)
end
end Go.Proofs.YtnphhelbianjpaaGreatDoor.V
namespace Go.Proofs.YtnphhelbianjpaaGreatDoor.V
open Go Go.RowKit
section
variable {P : Program} {w0 : World} {env : TEnv} {σ : TS}
end
section
variable {C : Cx} {K : TK} {env : TEnv} {σ : TS} {rest : List ROp} {d : Option Nat} {q : Bool} {ks : List LOp}
end
end Go.Proofs.YtnphhelbianjpaaGreatDoor.V
namespace Go.Proofs.YtnphhelbianjpaaGreatDoor.V
open Go Go.RowKit
def PureX (P : Program) (G : World → Prop) (f : FuncId) (args : List TV) (Q : TV → Prop) : Prop :=
 ∀ (w0 : World) (st : St) (Φ : Nat → Prop) (vargs : List Value), G w0 → Ok w0 st → (∀ b, Φ b → b < st.next) → RelF w0 st Φ args vargs →
  DCalls P w0 f vargs st fun v st' => (∃ r, Q r ∧ FRel w0 st' (fun b => Φ b ∨ (st.next ≤ b ∧ b < st'.next)) r v) ∧ st.le st'
section
variable {C : Cx} {K : TK} {env : TEnv} {σ : TS} {rest : List ROp} {d : Option Nat} {q : Bool} {ks : List LOp}
theorem tr_callX {f : FuncId} {args : List Operand} {l : List TV} {Q : TV → Prop} (ha : targs env args = some l) (hp : PureX C.P C.G f l Q) (hf : frozAll l = true) (h : ∀ r, Q r → TwR C rest K (putT d r env) σ) :
  TwR C (⟨d, none, .call (.fn f) args, q, ks⟩ :: rest) K env σ := by
 intro venv st Φ ν hr
 refine ⟨fun _ => ?_, fun h => by simp at h⟩
 obtain ⟨vs, h1, h2⟩ := targs_sound hr.env ha
 have h3 : RelF C.w0 st Φ l vs := ⟨h2.len, fun i x y hx hy => frozV_rel (frozAll_mem hf x (List.mem_of_getElem? hx)) (h2.rel i x y hx hy)⟩
 simp only [COp.step, evalC, h1, Option.map_some]
 refine (hp C.w0 st Φ vs C.hG hr.sim.ok hr.sim.fro h3).mono' fun v st' hv ho hn => ⟨fun _ => .inl hv.2, ?_⟩
 obtain ⟨⟨r, hq, hv1⟩, hv2⟩ := hv
 exact h r hq _ _ _ _ ((hr.le ho hv2).putO (.f _ _ hv1) d)
theorem PureX.of {P : Program} {G : World → Prop} (hm : P.follows .mixedOrders = true) {f : FuncId} {fn : Func} (hf : P.funcs[f]? = some fn) (hname : (fn.name == "runtime.NumGoroutine") = false) {fs : FS} (hc : compF P fn = some fs) {args : List TV} (hl : args.length = fs.params) {Q : TV → Prop}
  (h : ∀ C : Cx, C.P = P → C.G = G → C.pins = [] → TwS C fs.body (retT fs.results fun v σ => ∃ r, Q r ∧ Fz σ v r) (targEnv 0 args) ⟨[], 0⟩) : PureX P G f args Q := by
 intro w0 st Φ vargs hg ho hΦ hv
 have hC : ∀ venv st' Φ' ν', RelT ⟨P, G, w0, hg, st, Φ, fun _ => False, fun _ => none, []⟩ (targEnv 0 args) ⟨[], 0⟩ venv st' Φ' ν' → wpS P w0 fs.body (LiftQ ⟨P, G, w0, hg, st, Φ, fun _ => False, fun _ => none, []⟩ (retT fs.results fun v σ => ∃ r, Q r ∧ Fz σ v r)) venv st' := h ⟨P, G, w0, hg, st, Φ, fun _ => False, fun _ => none, []⟩ rfl rfl rfl
 have hlen : vargs.length = fs.params := by rw [← hl, hv.len]
 refine DCalls.of hm hf hname hc hlen ?_
 have hrel : RelT ⟨P, G, w0, hg, st, Φ, fun _ => False, fun _ => none, []⟩ (targEnv 0 args) ⟨[], 0⟩ (argEnv 0 vargs) st Φ fun _ => none := by
  refine ⟨⟨ho, fun i j c h => (by cases h), fun k b h => (by cases h), fun i c h => (by cases h), hΦ, fun _ _ => rfl, fun k o h => (by cases h)⟩, ?_, Nat.le_refl _, fun _ _ _ => rfl, fun k b h => (by cases h), fun j hj => (by cases hj), fun _ h => h, fun _ h => .inl h⟩
  intro t x ht
  rw [targEnv_look] at ht
  simp only [Nat.zero_le, if_true, Nat.sub_zero] at ht
  have hlt : t < vargs.length := by rw [← hv.len]; exact (List.getElem?_eq_some_iff.1 ht).1
  refine ⟨vargs[t], ?_, .f _ _ (hv.rel t x _ ht (List.getElem?_eq_getElem hlt))⟩
  rw [argEnv_lookup]
  simp [hlt]
 refine wpS_mono _ _ _ ?_ _ _ (hC _ _ _ _ hrel)
 rintro e venv' st' ⟨env', σ', Φ', ν', hr', hq⟩
 have fin : (∃ vs, tresAll env' σ' fs.results = some vs ∧ ∃ r, Q r ∧ Fz σ' (tresV vs) r) → (match resAll w0 venv' st' fs.results with | some vs => (∃ r, Q r ∧ FRel w0 st' (fun b => Φ b ∨ (st.next ≤ b ∧ b < st'.next)) r (resV vs)) ∧ st.le st' | none => False) := by
  rintro ⟨l, h1, r, hqr, h2⟩
  obtain ⟨vs, h3, h4⟩ := tresAll_sound hr' h1
  rw [show resAll w0 venv' st' fs.results = some vs from h3]
  refine ⟨⟨r, hqr, (fz_sound hr'.sim h2 (resV_rel h4)).stable ?_ fun _ _ => rfl⟩, hr'.next, fun b hb => hr'.frame b hb (fun h => h)⟩
  rintro b (h | ⟨k, _, h⟩)
  ·rcases hr'.phi b h with h1 | h1 | h1
   ·exact .inl h1
   ·exact h1.elim
   ·exact .inr ⟨h1, hr'.sim.fro b h⟩
  ·rcases hr'.mine k b h with h1 | h1
   ·exact h1.elim
   ·exact .inr ⟨h1, (hr'.sim.lt h).2⟩
 cases e with
 | normal => exact fin hq
 | ret => exact fin hq
 | _ => exact hq.elim
theorem PureX.at {P : Program} {G : World → Prop} (hm : P.follows .mixedOrders = true) {n : FuncId} (c : CF P n) {args : List TV} (hl : args.length = c.s.params) {Q : TV → Prop}
  (h : ∀ C : Cx, C.P = P → C.G = G → C.pins = [] → TwS C c.s.body (retT c.s.results fun v σ => ∃ r, Q r ∧ Fz σ v r) (targEnv 0 args) ⟨[], 0⟩) : PureX P G n args Q := by
 obtain ⟨fn, h1, h2, h3⟩ := c.get
 exact PureX.of hm h1 h2 h3 hl h
end
end Go.Proofs.YtnphhelbianjpaaGreatDoor.V
namespace Go.Proofs.YtnphhelbianjpaaGreatDoor.V
open Go Go.RowKit
section
variable {C : Cx} {K : TK} {env : TEnv} {σ : TS} {rest : List ROp} {d : Option Nat} {ks : List LOp} {q : Bool}
theorem tr_makeY {d : Nat} {ty : TypeId} {sz bytes : Nat} {zero : List Value} {l c : Operand} {n : Int} {m : Nat} {ys : List (List TV)} (hl : tO env l = some (.v (.int .i64 n))) (hc : tO env c = some (.v (.int .i64 n))) (hz : zero.all atom = true) (hsz : Nat.beq zero.length sz = true)
  (hn : n = (m : Int)) (hy : List.replicate m (zero.map .v) = ys) (hb : (m : Int) * bytes ≤ 140737488355328 ∧ (m : Int) < 9223372036854775808)
  (h : TwR C rest K ((d, .s σ.next sz 0 m true) :: env) (σ.alloc (.rows sz ys ty))) : TwR C (⟨some d, none, .alloc (.make ty sz bytes zero l c), q, ks⟩ :: rest) K env σ := by
 subst hn hy
 exact tr_make hl hc hz hsz ⟨by omega, hb.1, hb.2⟩ (by rw [Int.toNat_natCast]; exact h)
theorem tr_storeB {x v : Operand} {k j : Nat} {is : List Bool} {ty : TypeId} {b : Bool} (hx : tO env x = some (.e k 1 j 0)) (hk : σ.get k = some (.rows 1 (is.map fun b => [tB b]) ty)) (hv : tO env v = some (.v (.bool b))) (hj : j < is.length)
  (hks : keepAllT env σ k 0 1000000000000000000000000000000000000 ks = true) (h : TwR C rest K (putT d tundef env) (σ.set k (.rows 1 ((is.set j b).map fun b => [tB b]) ty))) : TwR C (⟨d, none, .heavy (.store 1 x v), q, ks⟩ :: rest) K env σ := by
 refine tr_storeE hx hk (c := [tB is[j]]) (by rw [List.getElem?_map, List.getElem?_eq_getElem hj]; rfl) hv (ys := [.v (.bool b)]) rfl rfl rfl (r := [tB b]) rfl hks ?_
 rw [← show (is.set j b).map (fun b => [tB b]) = (is.map fun b => [tB b]).set j [tB b] from List.map_set]
 exact h
theorem tl_ldB {P : Program} {w0 : World} {x : Operand} {k j : Nat} {is : List Bool} {ty : TypeId} (hx : tO env x = some (.e k 1 j 0)) (hk : σ.get k = some (.rows 1 (is.map fun b => [tB b]) ty)) (hj : j < is.length) : TL P w0 env σ (.ld 1 false x) (tB (is.getD j false)) := by
 refine tl_ldE hx hk (c := [tB (is.getD j false)]) ?_ rfl
 rw [List.getElem?_map, List.getElem?_eq_getElem hj, List.getD_eq_getElem?_getD, List.getElem?_eq_getElem hj]
 rfl
theorem frel_nilE {w0 : World} {st : St} {Φ : Nat → Prop} (sz : Nat) : FRel w0 st Φ (.lst sz []) (.slice none 0 0) :=
 .lst sz [] none 0 0 [] rfl (by decide) (fun a0 h => by cases h) (fun _ => Nat.le_refl _) (fun a0 h => by cases h) (fun x h => by cases h) (fun h => absurd rfl h) (fun j y z h => by simp at h)
theorem w_nilE (t sz : Nat) (hd : look t env = some (.v (.slice none 0 0))) : Weak C env σ ((t, .lst sz []) :: env) σ := by
 intro venv st Φ ν hr
 refine ⟨Φ, ν, hr.sim, hr.env.put1 hd fun v hv => ?_, hr.next, hr.frame, hr.mine, hr.pin, hr.phi0, hr.phi⟩
 obtain ⟨rfl, _⟩ := hv.v_inv
 exact .f _ _ (frel_nilE sz)
theorem nil_atX {P : Program} {G : World → Prop} {f : FuncId} {Q : TV → Prop} (a b : List TV) (sz : Nat) (h : PureX P G f (a ++ .lst sz [] :: b) Q) : PureX P G f (a ++ .v (.slice none 0 0) :: b) Q := by
 intro w0 st Φ vargs h1 h2 h3 h4
 refine h w0 st Φ vargs h1 h2 h3 ⟨by have := h4.len; simpa using this, fun i x y hx hy => ?_⟩
 by_cases hi : i = a.length
 ·subst hi
  rw [List.getElem?_append_right (Nat.le_refl _), Nat.sub_self] at hx
  cases hx
  have h5 := h4.rel a.length (.v (.slice none 0 0)) y (by rw [List.getElem?_append_right (Nat.le_refl _), Nat.sub_self]; rfl) hy
  cases h5
  exact frel_nilE sz
 ·refine h4.rel i x y ?_ hy
  rw [← hx]
  by_cases hl : i < a.length
  ·rw [List.getElem?_append_left hl, List.getElem?_append_left hl]
  ·rw [List.getElem?_append_right (by omega), List.getElem?_append_right (by omega)]
   obtain ⟨n, hn⟩ : ∃ n, i - a.length = n + 1 := ⟨i - a.length - 1, by omega⟩
   rw [hn]; rfl
end
end Go.Proofs.YtnphhelbianjpaaGreatDoor.V
