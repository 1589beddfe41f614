/-
  The abstract semantics 'V', part 14: code is compiled; what is compiled is sound.
-/
import Derived.Test.YtnndjlgkhfinjaaV13
import Derived.Deep.LoopGhost
set_option linter.all false
set_option linter.unusedSimpArgs false
set_option linter.unusedVariables false
set_option linter.unnecessarySimpa false
namespace Go.Proofs.Ytnndjlgkhfinjaa.V
open Go Go.RowKit

/-! ### Regions -/

section
variable (P : Program) (N : Nat)

def dstOk (d : Option Nat) : Bool := match d with | some d => decide (d < N) | none => true

def guardT (ops : Array Oper) : Option (Nat × Bool) → Option (Option (Nat × Bool))
  | none => some none
  | some (j, want) => match (ops[j]?).bind (·.dst) with
    | some t => some (some (t, want))
    | none => none

def ropOf (ops : Array Oper) (o : Oper) : Option ROp :=
  match cop P o.op, guardT ops o.guard with
  | some c, some g => if dstOk N o.dst then some ⟨o.dst, g, c, false, []⟩ else none
  | _, _ => none

def ropsOf (ops : Array Oper) : List Oper → Option (List ROp)
  | [] => some []
  | o :: r => match ropOf P N ops o, ropsOf ops r with
    | some x, some l => some (x :: l)
    | _, _ => none

/-- The first one of a list that may be done, and the others. -/
def firstOf (T : List Nat) (X : Nat) (p : Nat → Bool) : List Nat → Option (Nat × List Nat)
  | [] => none
  | i :: r => if (T.getD i 0 &&& X == T.getD i 0) && p i then some (i, r) else match firstOf T X p r with
    | some (j, r') => some (j, i :: r')
    | none => none

/-- What may be done is done as soon as may be; what writes or calls comes last. -/
def asap (T : List Nat) (heavy : Nat → Bool) : Nat → Nat → List Nat → List Nat
  | 0, _, _ => []
  | n + 1, X, l => match firstOf T X (fun i => !heavy i) l with
    | some (i, r) => i :: asap T heavy n (X ||| (1 <<< i)) r
    | none => match firstOf T X (fun _ => true) l with
      | some (i, r) => i :: asap T heavy n (X ||| (1 <<< i)) r
      | none => []

def readers (T : List Nat) (y : Nat) (pre : List (Nat × ROp)) : List LOp :=
  pre.filterMap fun x => match x.2.op with
    | .light l => if l.readsHeap && !bit (T.getD y 0) x.1 then some l else none
    | _ => none

def decoOne (T : List Nat) (pre : List (Nat × ROp)) (y : Nat × ROp) : Nat × ROp :=
  match y.2.op with
  | .call _ _ => (y.1, { y.2 with quiet := !(readers T y.1 pre).isEmpty })
  | .heavy _ => (y.1, { y.2 with keeps := readers T y.1 pre })
  | _ => y

def deco (T : List Nat) (L : List (Nat × ROp)) : List (Nat × ROp) := L.mapIdx fun q y => decoOne T (L.take q) y

def notIn (d : Option Nat) (l : List Nat) : Bool := match d with | some d => !l.contains d | none => true
def apart (d e : Option Nat) : Bool := match d, e with | some d, some e => d != e | _, _ => true

def pairB (ops : Array Oper) (T : List Nat) (x y : Nat × ROp) : Bool :=
  x.1 != y.1 && apart x.2.dst y.2.dst &&
  (bit (T.getD y.1 0) x.1 || (!x.2.op.isHeavy && (match ops[x.1]?, ops[y.1]? with
    | some ox, some oy => notIn x.2.dst (readsOf oy y.2) && notIn y.2.dst (readsOf ox x.2)
    | _, _ => false)))

def keepB (T : List Nat) (L : List (Nat × ROp)) (q : Nat) (y : Nat × ROp) : Bool :=
  match y.2.op with
  | .heavy _ => (List.range q).all fun p => match L[p]? with
    | some x => (match x.2.op with
      | .light l => !l.readsHeap || bit (T.getD y.1 0) x.1 || ((L.take q).drop p).all fun z => notIn z.2.dst (tmpsOf l.ops)
      | _ => true)
    | none => true
  | _ => true

def backB : Nat → List Oper → Bool
  | _, [] => true
  | i, o :: r => (o.after.toList.all fun e => !Region.binds .any e || decide (e.on < i)) && backB (i + 1) r

def schedB (ops : Array Oper) (T : List Nat) (L : List (Nat × ROp)) : Bool :=
  ((List.range ops.size).all fun i => L.any fun x => x.1 == i) &&
  ((List.range L.length).all fun q => match L[q]? with
    | some y => ((L.take q).all fun x => pairB ops T x y) && keepB T L q y
    | none => false) &&
  backB 0 ops.toList

def getAll (rs : List ROp) : List Nat → Option (List (Nat × ROp))
  | [] => some []
  | i :: r => match rs[i]?, getAll rs r with
    | some x, some l => some ((i, x) :: l)
    | _, _ => none

/-- A region's operations, in the order of the abstract run. -/
def cregion (ops : Array Oper) (draw : Bool) : Option (List ROp) :=
  match ropsOf P N ops ops.toList with
  | none => none
  | some rs =>
    if draw then
      match getAll rs (asap (ancM ops.toList []) (fun i => match rs[i]? with | some r => r.op.isHeavy | none => true) ops.size 0 (List.range ops.size)) with
      | some L => if schedB ops (ancM ops.toList []) L then some ((deco (ancM ops.toList []) L).map (·.2)) else none
      | none => none
    else some rs

variable {P N}

theorem ropOf_ok {ops : Array Oper} {o : Oper} {r : ROp} (h : ropOf P N ops o = some r) : ROk P N ops o r := by
  unfold ropOf at h
  split at h
  · rename_i c g hc hg
    split at h
    · rename_i hd
      cases h
      refine ⟨rfl, ?_, cop_ok hc, ?_⟩
      · intro d hdd
        simp only at hdd
        rw [hdd] at hd
        simpa [dstOk] using hd
      · cases hog : o.guard with
        | none => rw [hog] at hg; simp only [guardT, Option.some.injEq] at hg; subst hg; trivial
        | some q =>
          obtain ⟨j, want⟩ := q
          rw [hog] at hg
          simp only [guardT] at hg
          split at hg
          · rename_i t ht
            cases hg
            exact ⟨rfl, ht⟩
          · cases hg
    · cases h
  · cases h

theorem ropsOf_ok {ops : Array Oper} : ∀ (l : List Oper) (rs : List ROp), ropsOf P N ops l = some rs → rs.length = l.length ∧ ∀ (i : Nat) (o : Oper) (r : ROp), l[i]? = some o → rs[i]? = some r → ROk P N ops o r := by
  intro l
  induction l with
  | nil => intro rs h; cases h; exact ⟨rfl, by simp⟩
  | cons o l ih =>
    intro rs h
    simp only [ropsOf] at h
    split at h
    · rename_i x l' h1 h2
      cases h
      obtain ⟨i1, i2⟩ := ih l' h2
      refine ⟨by simp [i1], ?_⟩
      intro i o' r' ho hr
      cases i with
      | zero => simp at ho hr; subst ho; subst hr; exact ropOf_ok h1
      | succ i => exact i2 i o' r' (by simpa using ho) (by simpa using hr)
    · cases h

theorem getAll_ok {rs : List ROp} : ∀ (l : List Nat) (L : List (Nat × ROp)), getAll rs l = some L → ∀ (p i : Nat) (r : ROp), L[p]? = some (i, r) → rs[i]? = some r := by
  intro l
  induction l with
  | nil => intro L h; cases h; simp
  | cons i l ih =>
    intro L h
    simp only [getAll] at h
    split at h
    · rename_i x l' h1 h2
      cases h
      intro p j r hp
      cases p with
      | zero => simp at hp; obtain ⟨rfl, rfl⟩ := hp; exact h1
      | succ p => exact ih l' h2 p j r (by simpa using hp)
    · cases h

theorem decoOne_same (T : List Nat) (pre : List (Nat × ROp)) (y : Nat × ROp) : (decoOne T pre y).1 = y.1 ∧ (decoOne T pre y).2.dst = y.2.dst ∧ (decoOne T pre y).2.guard = y.2.guard ∧ (decoOne T pre y).2.op = y.2.op := by
  unfold decoOne
  split <;> simp_all

theorem backB_ok : ∀ (l : List Oper) (k : Nat), backB k l = true → ∀ (i : Nat) (o : Oper), l[i]? = some o → ∀ e ∈ o.after.toList, Region.binds .any e = true → e.on < k + i := by
  intro l
  induction l with
  | nil => intro k _ i o h; simp at h
  | cons o l ih =>
    intro k h i o' ho e he hb
    simp only [backB, Bool.and_eq_true, List.all_eq_true] at h
    cases i with
    | zero =>
      simp at ho; subst ho
      have := h.1 e he
      simpa [hb] using this
    | succ i =>
      have := ih (k + 1) h.2 i o' (by simpa using ho) e he hb
      omega

theorem notIn_ok {d : Option Nat} {l : List Nat} (h : notIn d l = true) : ∀ k, d = some k → k ∉ l := by
  intro k hk hm
  subst hk
  simp only [notIn, Bool.not_eq_true', List.contains_eq_mem] at h
  simp at h
  exact h hm

theorem readsOf_same (o : Oper) {r r' : ROp} (h : r.guard = r'.guard) : readsOf o r = readsOf o r' := by simp only [readsOf, h]

theorem sched_ok {ops : Array Oper} {rs : List ROp} (hrs : ropsOf P N ops ops.toList = some rs) {l : List Nat} {L0 : List (Nat × ROp)} (hl : getAll rs l = some L0)
    (hb : schedB ops (ancM ops.toList []) L0 = true) : SchedOk P N ops (deco (ancM ops.toList []) L0) := by
  obtain ⟨hlen, hrok⟩ := ropsOf_ok _ _ hrs
  have hlen' : rs.length = ops.size := by simpa using hlen
  simp only [schedB, Bool.and_eq_true, List.all_eq_true, List.mem_range] at hb
  obtain ⟨⟨hall, hpairs⟩, hback⟩ := hb
  have get : ∀ (p : Nat) (z : Nat × ROp), (deco (ancM ops.toList []) L0)[p]? = some z → ∃ z0, L0[p]? = some z0 ∧ z = decoOne (ancM ops.toList []) (L0.take p) z0 := by
    intro p z hz
    simp only [deco, List.getElem?_mapIdx] at hz
    cases h : L0[p]? with
    | none => simp [h] at hz
    | some z0 =>
      simp only [h, Option.map_some, Option.some.injEq] at hz
      exact ⟨z0, rfl, hz.symm⟩
  have orig : ∀ (p i : Nat) (r : ROp), (deco (ancM ops.toList []) L0)[p]? = some (i, r) → ∃ r0, L0[p]? = some (i, r0) ∧ r.dst = r0.dst ∧ r.guard = r0.guard ∧ r.op = r0.op ∧ (i, r) = decoOne (ancM ops.toList []) (L0.take p) (i, r0) := by
    intro p i r h
    obtain ⟨z0, h1, h2⟩ := get p _ h
    obtain ⟨k1, k2, k3, k4⟩ := decoOne_same (ancM ops.toList []) (L0.take p) z0
    rw [← h2] at k1 k2 k3 k4
    simp only at k1 k2 k3 k4
    obtain ⟨i0, r0⟩ := z0
    simp only at k1 k2 k3 k4
    subst k1
    exact ⟨r0, h1, k2, k3, k4, h2⟩
  have pairs : ∀ (p q : Nat) (x y : Nat × ROp), p < q → L0[p]? = some x → L0[q]? = some y → pairB ops (ancM ops.toList []) x y = true ∧ keepB (ancM ops.toList []) L0 q y = true := by
    intro p q x y hpq hx hy
    have hq : q < L0.length := (List.getElem?_eq_some_iff.1 hy).1
    have := hpairs q hq
    rw [hy] at this
    simp only [Bool.and_eq_true, List.all_eq_true] at this
    refine ⟨this.1 x ?_, this.2⟩
    rw [List.mem_iff_getElem?]
    exact ⟨p, by rw [List.getElem?_take, if_pos hpq]; exact hx⟩
  have anyop : ∀ (p i : Nat) (r0 : ROp), L0[p]? = some (i, r0) → ∃ o, ops[i]? = some o ∧ ROk P N ops o r0 := by
    intro p i r0 h
    have hr := getAll_ok l L0 hl p i r0 h
    have hi : i < ops.size := by rw [← hlen']; exact (List.getElem?_eq_some_iff.1 hr).1
    exact ⟨ops[i], by simp [hi], hrok i ops[i] r0 (by simp [hi]) hr⟩
  refine ⟨?_, ?_, ?_, ?_, ?_, ?_⟩
  · intro p i r h
    obtain ⟨r0, h1, k1, k2, k3, _⟩ := orig p i r h
    obtain ⟨o, ho, hok⟩ := anyop p i r0 h1
    refine ⟨o, ho, by rw [k1]; exact hok.dst, by rw [k1]; exact hok.lt, by rw [k3]; exact hok.op, by rw [k2]; exact hok.guard⟩
  · intro i hi
    have := hall i hi
    rw [List.any_eq_true] at this
    obtain ⟨x, hx, hxi⟩ := this
    obtain ⟨p, hp⟩ := List.mem_iff_getElem?.1 hx
    have hxi' : x.1 = i := by simpa using hxi
    obtain ⟨k1, _⟩ := decoOne_same (ancM ops.toList []) (L0.take p) x
    refine ⟨p, (decoOne (ancM ops.toList []) (L0.take p) x).2, ?_⟩
    simp only [deco, List.getElem?_mapIdx, hp, Option.map_some]
    rw [← hxi', ← k1]
  · intro p q i r r' h1 h2
    obtain ⟨r0, m1, _⟩ := orig p i r h1
    obtain ⟨r1, m2, _⟩ := orig q i r' h2
    rcases Nat.lt_trichotomy p q with hlt | heq | hlt
    · have := (pairs p q _ _ hlt m1 m2).1
      simp [pairB] at this
    · exact heq
    · have := (pairs q p _ _ hlt m2 m1).1
      simp [pairB] at this
  · intro p q i j x y ox oy hpq h1 h2 hox hoy
    obtain ⟨x0, m1, a1, a2, a3, a4⟩ := orig p i x h1
    obtain ⟨y0, m2, b1, b2, b3, b4⟩ := orig q j y h2
    obtain ⟨hp, hk⟩ := pairs p q _ _ hpq m1 m2
    simp only [pairB, Bool.and_eq_true, hox, hoy] at hp
    obtain ⟨⟨_, hap⟩, hrest⟩ := hp
    have hfree : bit ((ancM ops.toList []).getD j 0) i = false → (!x0.op.isHeavy) = true ∧ notIn x0.dst (readsOf oy y0) = true ∧ notIn y0.dst (readsOf ox x0) = true := by
      intro h
      rw [h] at hrest
      simpa [Bool.and_eq_true] using hrest
    have hmem : ∀ l, x.op = .light l → l.readsHeap = true → bit ((ancM ops.toList []).getD j 0) i = false → l ∈ readers (ancM ops.toList []) j (L0.take q) := by
      intro l hxl hrd hb
      simp only [readers, List.mem_filterMap]
      refine ⟨(i, x0), ?_, ?_⟩
      · rw [List.mem_iff_getElem?]
        exact ⟨p, by rw [List.getElem?_take, if_pos hpq]; exact m1⟩
      · rw [a3] at hxl
        simp only [hxl, hrd, hb, Bool.not_false, Bool.and_self, if_true]
    refine ⟨?_, ?_, ?_, ?_, ?_, ?_⟩
    · intro d hd hd'
      rw [a1] at hd
      rw [b1] at hd'
      simp only [hd, hd', apart] at hap
      simp at hap
    · intro h; rw [a3]; simpa using (hfree h).1
    · intro h d hd
      rw [a1] at hd
      rw [readsOf_same oy b2]
      exact notIn_ok (hfree h).2.1 d hd
    · intro h d hd
      rw [b1] at hd
      rw [readsOf_same ox a2]
      exact notIn_ok (hfree h).2.2 d hd
    · intro h l hxl hrd f args hy
      have := hmem l hxl hrd h
      rw [b3] at hy
      simp only [decoOne, hy, Prod.mk.injEq] at b4
      rw [b4.2]
      simp only [Bool.not_eq_true']
      cases hh : readers (ancM ops.toList []) j (L0.take q) with
      | nil => rw [hh] at this; cases this
      | cons _ _ => rfl
    · intro h l hxl hrd hh hy
      have := hmem l hxl hrd h
      rw [b3] at hy
      simp only [decoOne, hy, Prod.mk.injEq] at b4
      rw [b4.2]
      exact this
  · intro p q z i j k x y u l h hpz hzq h1 h2 h3 hxl hrd hy hb d hd
    obtain ⟨x0, m1, a1, a2, a3, a4⟩ := orig p i x h1
    obtain ⟨y0, m2, b1, b2, b3, b4⟩ := orig q j y h2
    obtain ⟨u0, m3, c1, _⟩ := orig z k u h3
    have hk := (pairs p q _ _ (by omega) m1 m2).2
    rw [b3] at hy
    rw [a3] at hxl
    simp only [keepB, hy, List.all_eq_true, List.mem_range] at hk
    have := hk p (by omega)
    rw [m1] at this
    simp only [hxl, hrd, hb, Bool.not_true, Bool.false_or, List.all_eq_true] at this
    refine notIn_ok (this (k, u0) ?_) d (by rw [← c1]; exact hd)
    rw [List.mem_iff_getElem?]
    refine ⟨z - p, ?_⟩
    rw [List.getElem?_drop, List.getElem?_take, if_pos (by omega), show p + (z - p) = z by omega]
    exact m3
  · intro i o ho e he hbd
    have := backB_ok ops.toList 0 hback i o (by simpa using ho) e he hbd
    omega

end
end Go.Proofs.Ytnndjlgkhfinjaa.V
