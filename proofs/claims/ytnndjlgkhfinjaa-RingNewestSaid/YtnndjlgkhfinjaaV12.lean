/-
  The abstract semantics 'V', part 12: the abstract run goes ahead of the world's.
-/
import Derived.Test.YtnndjlgkhfinjaaV11
set_option linter.all false
set_option linter.unusedSimpArgs false
set_option linter.unusedVariables false
set_option linter.unnecessarySimpa false
namespace Go.Proofs.Ytnndjlgkhfinjaa.V
open Go Go.RowKit

def up {α : Type} (f : Nat → α) (n : Nat) (v : α) : Nat → α := fun p => if p = n then v else f p
theorem up_self {α : Type} (f : Nat → α) (n : Nat) (v : α) : up f n v n = v := by simp [up]
theorem up_ne {α : Type} (f : Nat → α) {n p : Nat} (v : α) (h : p ≠ n) : up f n v p = f p := by simp [up, h]

theorem lookup_putE {d : Option Nat} {v : Value} {env : Env} {t : Nat} (h : d ≠ some t) : (putE d v env).lookup t = env.lookup t := by
  cases d with
  | none => rfl
  | some d => simp only [putE, lookup_cons]; rw [if_neg]; intro e; subst e; exact h rfl
theorem lookup_putE_self {d : Nat} {v : Value} {env : Env} : (putE (some d) v env).lookup d = some v := by simp [putE]

section
variable {P : Program} {w0 : World} {N : Nat} {ops : Array Oper} {L : List (Nat × ROp)} {K : Env → St → Prop} {μ0 : Mp} {st0 : St}
variable {n : Nat} {X : Nat → Prop} {E : Nat → Env} {V : Nat → Value} {B : Nat → Nat} {env : Env} {st : St} {μ : Mp} {a : Act} {w : World}

theorem Inv.drop (h : Inv P w0 N ops L K μ0 st0 n X E V B env st μ a w) {i : Nat} {r : ROp} (hn : L[n]? = some (i, r)) : (L.drop n).map (·.2) = r :: (L.drop (n + 1)).map (·.2) := by
  obtain ⟨hlt, he⟩ := List.getElem?_eq_some_iff.1 hn
  rw [List.drop_eq_getElem_cons hlt, he]; rfl

/-- A state that keeps all it had keeps what is known of the operations that are still to come. -/
theorem Pend.le {r : ROp} {env : Env} {st st' : St} {μ μ' : Mp} {v : Value} {b : Nat} (h : Pend P w0 r env st μ v b)
    (hlight : ∀ l v, r.op = .light l → l.eval P w0 env st = some v → l.eval P w0 env st' = some v) (hb : b < st.next → μ b = none → μ' b = none ∧ st'.blk b = st.blk b) (hn : st.next ≤ st'.next) :
    Pend P w0 r env st' μ' v b := by
  obtain ⟨g, h1, h2, h3⟩ := h
  refine ⟨g, h1, h2, fun hg => ?_⟩
  have h3 := h3 hg
  cases hop : r.op with
  | light l => rw [hop] at h3; exact hlight l v hop h3
  | alloc A =>
    rw [hop] at h3
    obtain ⟨bk, mk, k1, k2, k3, k4, k5⟩ := h3
    obtain ⟨q1, q2⟩ := hb k5 k4
    exact ⟨bk, mk, k1, k2, by rw [q2]; exact k3, q1, Nat.lt_of_lt_of_le k5 hn⟩
  | heavy _ => rw [hop] at h3; exact h3.elim
  | call _ _ => rw [hop] at h3; exact h3.elim

theorem Inv.ahead (hL : SchedOk P N ops L) (h : Inv P w0 N ops L K μ0 st0 n X E V B env st μ a w) {i : Nat} {r : ROp} (hn : L[n]? = some (i, r)) (hi : ¬ X i) (hv : r.op.isHeavy = false) :
    ∃ E' V' B' env' st', Inv P w0 N ops L K μ0 st0 (n + 1) X E' V' B' env' st' μ a w := by
  have hrun := h.run
  rw [h.drop hn] at hrun
  simp only [wpR] at hrun
  -- what the abstract run does
  have key : ∃ v b st', wpR P w0 ((L.drop (n + 1)).map (·.2)) K (putE r.dst v env) st' ∧ Pend P w0 r env st' μ v b ∧ (st' = st ∨ ∃ bk, st' = st.alloc bk) ∧ (b = st.next) := by
    cases hg : guardOf env r.guard with
    | none => rw [hg] at hrun; exact hrun.elim
    | some g =>
      rw [hg] at hrun
      cases g with
      | false => exact ⟨undef, st.next, st, hrun.2 rfl, ⟨false, hg, fun _ => rfl, (by intro h; cases h)⟩, .inl rfl, rfl⟩
      | true =>
        have hrun := hrun.1 rfl
        cases hop : r.op with
        | light l =>
          rw [hop] at hrun
          simp only [COp.step] at hrun
          cases hev : l.eval P w0 env st with
          | none => simp [hev] at hrun
          | some v =>
            simp only [hev] at hrun
            exact ⟨v, st.next, st, hrun, ⟨true, hg, (by intro h; cases h), (by intro _; rw [hop]; exact hev)⟩, .inl rfl, rfl⟩
        | alloc A =>
          rw [hop] at hrun
          simp only [COp.step] at hrun
          cases hev : A.eval env with
          | none => simp [hev] at hrun
          | some q =>
            obtain ⟨bk, mk⟩ := q
            simp only [hev] at hrun
            refine ⟨mk st.next, st.next, st.alloc bk, hrun, ⟨true, hg, (by intro h; cases h), fun _ => ?_⟩, .inr ⟨bk, rfl⟩, rfl⟩
            rw [hop]
            exact ⟨bk, mk, hev, rfl, by simp [St.alloc], (h.sim.fresh st.next (Nat.le_refl _)).1, Nat.lt_succ_self _⟩
        | heavy _ => rw [hop] at hv; simp [COp.isHeavy] at hv
        | call _ _ => rw [hop] at hv; simp [COp.isHeavy] at hv
  obtain ⟨v, b, st', hrun', hpend, hst, hb⟩ := key
  have hle : st.le st' := by
    rcases hst with rfl | ⟨bk, rfl⟩
    · exact St.le.refl _
    · exact St.le.alloc _ _
  have hsim : Sim P w0 μ st' w := by
    rcases hst with rfl | ⟨bk, rfl⟩
    · exact h.sim
    · exact h.sim.ahead bk
  have hkeep : Keep μ0 st0 μ st' := h.kp.trans ⟨hle.next, fun b hb hm => ⟨hm, hle.blk b hb⟩⟩
  have hfr : ∀ b, st.next ≤ b → st.blk b = none := fun b hb => (h.sim.fresh b hb).2
  refine ⟨up E n env, up V n v, up B n b, putE r.dst v env, st', ⟨hrun', hsim, h.ext, hkeep, h.dfr, h.size, h.closed, ?_, ?_, ?_, ?_, ?_, ?_, ?_, ?_, ?_, ?_⟩⟩
  · intro j hj
    obtain ⟨p, r', hp, hp'⟩ := h.done j hj
    exact ⟨p, r', Nat.lt_succ_of_lt hp, hp'⟩
  · intro p j r' hp hp' hh
    rcases Nat.lt_succ_iff_lt_or_eq.1 hp with hp | rfl
    · exact h.heavy p j r' hp hp' hh
    · rw [hn] at hp'; cases hp'; rw [hv] at hh; cases hh
  · intro p j r' hp hp' hx
    rcases Nat.lt_succ_iff_lt_or_eq.1 hp with hp | rfl
    · rw [up_ne _ _ (by omega), up_ne _ _ (by omega), up_ne _ _ (by omega)]
      exact (h.pend p j r' hp hp' hx).le (fun l v _ hl => eval_le hle hfr hl) (fun hb hm => ⟨hm, hle.blk _ hb⟩) hle.next
    · rw [hn] at hp'; cases hp'
      rw [up_self, up_self, up_self]
      exact hpend
  · intro p q j k r1 r2 hpq hq hp' hq' hx1 hx2 ha1 ha2 hg1 hg2
    rcases Nat.lt_succ_iff_lt_or_eq.1 hq with hq | rfl
    · rw [up_ne _ _ (by omega)] at hg1
      rw [up_ne _ _ (by omega)] at hg2
      rw [up_ne _ _ (by omega), up_ne _ _ (by omega)]
      exact h.blocks p q j k r1 r2 hpq hq hp' hq' hx1 hx2 ha1 ha2 hg1 hg2
    · rw [up_ne _ _ (by omega)] at hg1
      rw [up_self, up_ne _ _ (by omega), hb]
      obtain ⟨g, k1, _, k3⟩ := h.pend p j r1 hpq hp' hx1
      rw [hg1] at k1; cases k1
      have k3 := k3 rfl
      obtain ⟨A, hA⟩ := ha1
      rw [hA] at k3
      obtain ⟨_, _, _, _, _, _, k⟩ := k3
      exact k
  · intro p j r' hp hp' hx
    rcases Nat.lt_succ_iff_lt_or_eq.1 hp with hp | rfl
    · rw [up_ne _ _ (by omega)]; exact h.low p j r' hp hp' hx
    · rw [up_self, hb]; exact h.kp.next
  · intro t u hu hw
    have hne : r.dst ≠ some t := by
      intro e
      exact hi (hw n i r (Nat.lt_succ_self _) hn e)
    rw [lookup_putE hne] at hu
    exact h.cur t u hu (fun p j r' hp hp' hd => hw p j r' (Nat.lt_succ_of_lt hp) hp' hd)
  · intro p j r' o hp hp' ho hx t ht u hu hw
    rcases Nat.lt_succ_iff_lt_or_eq.1 hp with hp | rfl
    · rw [up_ne _ _ (by omega)] at hu
      exact h.opnd p j r' o hp hp' ho hx t ht u hu hw
    · rw [up_self] at hu
      exact h.cur t u hu hw
  · intro p j r' d hp hp' hx hd
    rcases Nat.lt_succ_iff_lt_or_eq.1 hp with hp | rfl
    · rw [up_ne _ _ (by omega)]
      obtain ⟨o1, ho1, _⟩ := hL.rok p j r' hp'
      obtain ⟨o2, ho2, _⟩ := hL.rok n i r hn
      have := (hL.pair p n j i r' r o1 o2 hp hp' hn ho1 ho2).ssa d hd
      rw [lookup_putE this]
      exact h.val p j r' d hp hp' hx hd
    · rw [hn] at hp'; cases hp'
      rw [up_self, hd, lookup_putE_self]
  · intro p q j r' d hpq hq hp' hx hd
    rcases Nat.lt_succ_iff_lt_or_eq.1 hq with hq | rfl
    · rw [up_ne _ _ (by omega), up_ne _ _ (by omega)]
      exact h.valE p q j r' d hpq hq hp' hx hd
    · rw [up_self, up_ne _ _ (by omega)]
      exact h.val p j r' d hpq hp' hx hd
  · intro p t hp hz
    have hne : r.dst ≠ some t := hz n i r (by omega) (Nat.lt_succ_self _) hn
    rw [lookup_putE hne]
    rcases Nat.lt_succ_iff_lt_or_eq.1 hp with hp | rfl
    · rw [up_ne _ _ (by omega)]
      exact h.agree p t hp (fun z k u h1 h2 => hz z k u h1 (Nat.lt_succ_of_lt h2))
    · rw [up_self]

theorem anc_done (hcl : ∀ i, X i → ∀ o, ops[i]? = some o → ∀ e ∈ o.after.toList, Region.binds .any e = true → X e.on) {i : Nat}
    (hready : ∀ o, ops[i]? = some o → ∀ e ∈ o.after.toList, Region.binds .any e = true → X e.on) {j : Nat} (hb : bit ((ancM ops.toList []).getD i 0) j = true) (hj : j ≠ i) : X j := by
  have := ancM_sound (fun k => k = i ∨ X k) ops.toList [] (by
    intro k o hk hx e he hbe
    simp only [List.length_nil, Nat.zero_add] at hx
    have ho : ops[k]? = some o := by simpa using hk
    rcases hx with rfl | hx
    · exact .inr (hready o ho e he hbe)
    · exact .inr (hcl k hx o ho e he hbe)) (by intro i x h; simp [bit] at h) i j hb (.inl rfl)
  exact this.resolve_left hj

theorem putA_ne (a : Act) {d : Option Nat} (v : Value) {t : Nat} (h : d ≠ some t) : (a.put d v).tmps[t]? = a.tmps[t]? := by
  cases d with
  | none => rfl
  | some d =>
    have : d ≠ t := by intro e; subst e; exact h rfl
    simp [Act.put, this]
theorem putA_self (a : Act) {d : Nat} (v : Value) (h : d < a.tmps.size) : (a.put (some d) v).tmps[d]? = some v := by simp [Act.put, h]
theorem putA_size (a : Act) (d : Option Nat) (v : Value) : (a.put d v).tmps.size = a.tmps.size := by cases d <;> simp [Act.put]

theorem mem_tmpsOf {l : List Operand} {t : Nat} (h : Operand.tmp t ∈ l) : t ∈ tmpsOf l := List.mem_filterMap.2 ⟨_, h, rfl⟩

/-- The world does an operation that the abstract run has done already. -/
theorem Inv.exec (hL : SchedOk P N ops L) (h : Inv P w0 N ops L K μ0 st0 n X E V B env st μ a w) {p i : Nat} {r : ROp} (hp : p < n) (hp' : L[p]? = some (i, r)) (hi : ¬ X i)
    (hready : ∀ o, ops[i]? = some o → ∀ e ∈ o.after.toList, Region.binds .any e = true → X e.on) {Q : Exit → Act → World → Prop} {KK : Act → World → Prop}
    (hk : ∀ μ' a' w', Inv P w0 N ops L K μ0 st0 n (fun j => j = i ∨ X j) E V B env st μ' a' w' → KK a' w') : wpOp P ops Q i KK a w := by
  obtain ⟨o, ho, hrok⟩ := hL.rok p i r hp'
  -- who writes what is read has been done
  have hread : ∀ t ∈ readsOf o r, ∀ u, (E p).lookup t = some u → ∃ u', a.tmps[t]? = some u' ∧ VRel P w0.heap.size μ u u' := by
    intro t ht u hu
    refine h.opnd p i r o hp hp' ho hi t ht u hu ?_
    intro q j r' hq hq' hd
    obtain ⟨o', ho', _⟩ := hL.rok q j r' hq'
    have hpair := hL.pair q p j i r' r o' o hq hq' hp' ho' ho
    cases hb : bit ((ancM ops.toList []).getD i 0) j with
    | true =>
      refine anc_done h.closed hready hb ?_
      intro e; subst e
      have := hL.one q p j r' r hq' hp'
      omega
    | false =>
      rw [hb] at hpair
      exact absurd ht (hpair.fwd rfl t hd)
  have hop : OpRel P w0.heap.size μ (E p) a o := by
    intro x hx u hu
    cases x with
    | tmp t =>
      obtain ⟨u', h1, h2⟩ := hread t (List.mem_append_left _ (mem_tmpsOf hx)) u hu
      have : a.eval (.tmp t) = u' := by simp [Act.eval, Array.getD_eq_getD_getElem?, h1]
      rw [this]; exact h2
    | const c =>
      simp only [evalO] at hu
      split at hu
      · cases hu; exact VRel.flat (by assumption)
      · cases hu
    | global g => cases hu
    | func f => cases hu
  obtain ⟨g, hg, hg1, hg2⟩ := h.pend p i r hp hp' hi
  have hgw := guard_eq (a := a) (μ := μ) hrok hg (fun t want hrg u hu => hread t (List.mem_append_right _ (by rw [hrg]; simp)) u hu)
  -- what is known behind it
  have fin : ∀ (μ' : Mp) (v' : Value) (w' : World), VRel P w0.heap.size μ' (V p) v' → Sim P w0 μ' st w' → Ext μ μ' → Keep μ0 st0 μ' st →
      (∀ (q j : Nat) (r' : ROp), q < n → L[q]? = some (j, r') → ¬ (j = i ∨ X j) → Pend P w0 r' (E q) st μ' (V q) (B q)) → KK (a.put o.dst v') w' := by
    intro μ' v' w' hv hs' hext hkp hpend
    have ssa : ∀ (q j : Nat) (r' : ROp), L[q]? = some (j, r') → ∀ d, r'.dst = some d → r.dst = some d → q = p := by
      intro q j r' hq' d h1 h2
      obtain ⟨o', ho', _⟩ := hL.rok q j r' hq'
      rcases Nat.lt_trichotomy q p with hlt | heq | hlt
      · exact absurd h2 ((hL.pair q p j i r' r o' o hlt hq' hp' ho' ho).ssa d h1)
      · exact heq
      · exact absurd h1 ((hL.pair p q i j r r' o o' hlt hp' hq' ho ho').ssa d h2)
    have notX : ∀ {j}, ¬ (j = i ∨ X j) → ¬ X j ∧ j ≠ i := fun h => ⟨fun hx => h (.inr hx), fun hx => h (.inl hx)⟩
    rw [← hrok.dst]
    refine hk μ' _ w' ⟨h.run, hs', h.ext.trans hext, hkp, by rw [put_defers]; exact h.dfr, by rw [putA_size]; exact h.size, ?_, ?_, ?_, hpend, ?_, ?_, ?_, ?_, ?_, ?_, h.agree⟩
    · intro j hj o' ho' e he hbe
      rcases hj with rfl | hj
      · exact .inr (hready o' ho' e he hbe)
      · exact .inr (h.closed j hj o' ho' e he hbe)
    · intro j hj
      rcases hj with rfl | hj
      · exact ⟨p, r, hp, hp'⟩
      · exact h.done j hj
    · intro q j r' hq hq' hh
      exact .inr (h.heavy q j r' hq hq' hh)
    · intro q1 q2 j1 j2 r1 r2 hq hq2 h1 h2 hx1 hx2
      exact h.blocks q1 q2 j1 j2 r1 r2 hq hq2 h1 h2 (notX hx1).1 (notX hx2).1
    · intro q j r' hq hq' hx
      exact h.low q j r' hq hq' (notX hx).1
    · intro t u hu hw
      by_cases hd : r.dst = some t
      · have := h.val p i r t hp hp' hi hd
        rw [this] at hu; cases hu
        rw [hd]
        exact ⟨v', putA_self a v' (by rw [h.size]; exact hrok.lt t hd), hv⟩
      · rw [putA_ne a v' hd]
        obtain ⟨u', k1, k2⟩ := h.cur t u hu (fun q j r' hq hq' hd' => by
          rcases hw q j r' hq hq' hd' with rfl | hx
          · have := hL.one q p j r' r hq' hp'
            subst this
            rw [hq'] at hp'; cases hp'
            exact absurd hd' hd
          · exact hx)
        exact ⟨u', k1, k2.ext hext⟩
    · intro q j r' o' hq hq' ho' hx t ht u hu hw
      obtain ⟨hx1, hx2⟩ := notX hx
      by_cases hd : r.dst = some t
      · -- it is what has just been written that is read: p stands ahead of q
        have hpq : p < q := by
          rcases Nat.lt_trichotomy p q with hlt | heq | hlt
          · exact hlt
          · subst heq; rw [hp'] at hq'; cases hq'; exact absurd rfl hx2
          · have hpair := hL.pair q p j i r' r o' o hlt hq' hp' ho' ho
            cases hb : bit ((ancM ops.toList []).getD i 0) j with
            | true => exact absurd (anc_done h.closed hready hb hx2) hx1
            | false => rw [hb] at hpair; exact absurd ht (hpair.bwd rfl t hd)
        have := h.valE p q i r t hpq hq hp' hi hd
        rw [this] at hu; cases hu
        rw [hd]
        exact ⟨v', putA_self a v' (by rw [h.size]; exact hrok.lt t hd), hv⟩
      · rw [putA_ne a v' hd]
        obtain ⟨u', k1, k2⟩ := h.opnd q j r' o' hq hq' ho' hx1 t ht u hu (fun q2 j2 r2 h1 h2 hd' => by
          rcases hw q2 j2 r2 h1 h2 hd' with rfl | hx
          · have := hL.one q2 p j2 r2 r h2 hp'
            subst this
            rw [h2] at hp'; cases hp'
            exact absurd hd' hd
          · exact hx)
        exact ⟨u', k1, k2.ext hext⟩
    · intro q j r' d hq hq' hx hd
      exact h.val q j r' d hq hq' (notX hx).1 hd
    · intro q1 q2 j r' d hq hq2 h1 hx hd
      exact h.valE q1 q2 j r' d hq hq2 h1 (notX hx).1 hd
  have same : ∀ (q j : Nat) (r' : ROp), q < n → L[q]? = some (j, r') → ¬ (j = i ∨ X j) → Pend P w0 r' (E q) st μ (V q) (B q) :=
    fun q j r' hq hq' hx => h.pend q j r' hq hq' (fun hx' => hx (.inr hx'))
  cases g with
  | false =>
    have := hg1 rfl
    refine wpOp_skip ho hgw ?_
    exact fin μ undef w (by rw [this]; exact VRel.undef) h.sim (Ext.refl _) h.kp same
  | true =>
    have hg2 := hg2 rfl
    have hok := hrok.op
    cases hopr : r.op with
    | light l =>
      rw [hopr] at hg2 hok
      exact wpOp_light ho hgw hok hg2 h.sim hop fun v' hv => fin μ v' w hv h.sim (Ext.refl _) h.kp same
    | alloc A =>
      rw [hopr] at hg2 hok
      obtain ⟨bk, mk, k1, k2, k3, k4, k5⟩ := hg2
      refine wpOp_alloc ho hgw hok k1 hop fun obj v' hobj hv => ?_
      have hext := Ext.upd k4 (locOf w.heap.size obj)
      refine fin _ v' _ (by rw [k2]; exact hv _ _ (upd_self _ _ _)) (h.sim.birth k3 k4 k5 hobj) hext ?_ ?_
      · refine ⟨h.kp.next, fun b hb hm => ?_⟩
        obtain ⟨q1, q2⟩ := h.kp.unborn b hb hm
        refine ⟨?_, q2⟩
        rw [upd_other]
        · exact q1
        · intro e
          subst e
          have := h.low p i r hp hp' hi
          omega
      · intro q j r' hq hq' hx
        have hx1 : ¬ X j := fun hx' => hx (.inr hx')
        have hx2 : j ≠ i := fun hx' => hx (.inl hx')
        obtain ⟨g', m1, m2, m3⟩ := h.pend q j r' hq hq' hx1
        refine ⟨g', m1, m2, fun hg' => ?_⟩
        have m3 := m3 hg'
        cases hop2 : r'.op with
        | light l => rw [hop2] at m3; exact m3
        | alloc A' =>
          rw [hop2] at m3
          obtain ⟨bk', mk', n1, n2, n3, n4, n5⟩ := m3
          refine ⟨bk', mk', n1, n2, n3, ?_, n5⟩
          rw [upd_other]
          · exact n4
          · subst hg'
            rcases Nat.lt_trichotomy q p with hlt | heq | hlt
            · have := h.blocks q p j i r' r hlt hp hq' hp' hx1 hi ⟨A', hop2⟩ ⟨A, hopr⟩ m1 hg
              omega
            · subst heq; rw [hp'] at hq'; cases hq'; exact absurd rfl hx2
            · have := h.blocks p q i j r r' hlt hq hp' hq' hi hx1 ⟨A, hopr⟩ ⟨A', hop2⟩ hg m1
              omega
        | heavy _ => rw [hop2] at m3; exact m3.elim
        | call _ _ => rw [hop2] at m3; exact m3.elim
    | heavy _ => rw [hopr] at hg2; exact hg2.elim
    | call _ _ => rw [hopr] at hg2; exact hg2.elim

/-- The world does the operation that stands next in the abstract run, and that writes or calls. -/
theorem Inv.execH (hL : SchedOk P N ops L) (h : Inv P w0 N ops L K μ0 st0 n X E V B env st μ a w) {i : Nat} {r : ROp} (hp' : L[n]? = some (i, r)) (hv : r.op.isHeavy = true)
    (hi : ¬ X i) (hready : ∀ o, ops[i]? = some o → ∀ e ∈ o.after.toList, Region.binds .any e = true → X e.on) {Q : Exit → Act → World → Prop} {KK : Act → World → Prop}
    (hk : ∀ env' st' μ' a' w', Inv P w0 N ops L K μ0 st0 (n + 1) (fun j => j = i ∨ X j) (up E n env) V B env' st' μ' a' w' → KK a' w') : wpOp P ops Q i KK a w := by
  obtain ⟨o, ho, hrok⟩ := hL.rok n i r hp'
  have hrun := h.run
  rw [h.drop hp'] at hrun
  simp only [wpR] at hrun
  have ahead : ∀ (q j : Nat) (r' : ROp), q < n → L[q]? = some (j, r') → ¬ X j → bit ((ancM ops.toList []).getD i 0) j = false := by
    intro q j r' hq hq' hx
    cases hb : bit ((ancM ops.toList []).getD i 0) j with
    | false => rfl
    | true =>
      refine absurd (anc_done h.closed hready hb ?_) hx
      intro e; subst e
      have := hL.one q n j r' r hq' hp'
      omega
  have hread : ∀ t ∈ readsOf o r, ∀ u, env.lookup t = some u → ∃ u', a.tmps[t]? = some u' ∧ VRel P w0.heap.size μ u u' := by
    intro t ht u hu
    refine h.cur t u hu ?_
    intro q j r' hq hq' hd
    obtain ⟨o', ho', _⟩ := hL.rok q j r' hq'
    have hpair := hL.pair q n j i r' r o' o hq hq' hp' ho' ho
    by_cases hx : X j
    · exact hx
    · rw [ahead q j r' hq hq' hx] at hpair
      exact absurd ht (hpair.fwd rfl t hd)
  have hop : OpRel P w0.heap.size μ env a o := by
    intro x hx u hu
    cases x with
    | tmp t =>
      obtain ⟨u', h1, h2⟩ := hread t (List.mem_append_left _ (mem_tmpsOf hx)) u hu
      have : a.eval (.tmp t) = u' := by simp [Act.eval, Array.getD_eq_getD_getElem?, h1]
      rw [this]; exact h2
    | const c =>
      simp only [evalO] at hu
      split at hu
      · cases hu; exact VRel.flat (by assumption)
      · cases hu
    | global g => cases hu
    | func f => cases hu
  have notX : ∀ {j}, ¬ (j = i ∨ X j) → ¬ X j ∧ j ≠ i := fun h => ⟨fun hx => h (.inr hx), fun hx => h (.inl hx)⟩
  have fin : ∀ (v : Value) (st' : St) (μ' : Mp) (v' : Value) (w' : World), VRel P w0.heap.size μ' v v' → Sim P w0 μ' st' w' → Ext μ μ' → Keep μ st μ' st' →
      wpR P w0 ((L.drop (n + 1)).map (·.2)) K (putE r.dst v env) st' →
      (∀ (q j : Nat) (r' : ROp), q < n → L[q]? = some (j, r') → ¬ X j → ∀ l u, r'.op = .light l → l.eval P w0 (E q) st = some u → l.eval P w0 (E q) st' = some u) → KK (a.put o.dst v') w' := by
    intro v st' μ' v' w' hvv hs' hext hkeep hrun' hlights
    rw [← hrok.dst]
    refine hk _ st' μ' _ w' ⟨hrun', hs', h.ext.trans hext, h.kp.trans hkeep, by rw [put_defers]; exact h.dfr, by rw [putA_size]; exact h.size, ?_, ?_, ?_, ?_, ?_, ?_, ?_, ?_, ?_, ?_, ?_⟩
    · intro j hj o' ho' e he hbe
      rcases hj with rfl | hj
      · exact .inr (hready o' ho' e he hbe)
      · exact .inr (h.closed j hj o' ho' e he hbe)
    · intro j hj
      rcases hj with rfl | hj
      · exact ⟨n, r, Nat.lt_succ_self _, hp'⟩
      · obtain ⟨p, r', k1, k2⟩ := h.done j hj
        exact ⟨p, r', Nat.lt_succ_of_lt k1, k2⟩
    · intro q j r' hq hq' hh
      rcases Nat.lt_succ_iff_lt_or_eq.1 hq with hq | rfl
      · exact .inr (h.heavy q j r' hq hq' hh)
      · rw [hp'] at hq'; cases hq'; exact .inl rfl
    · intro q j r' hq hq' hx
      obtain ⟨hx1, hx2⟩ := notX hx
      rcases Nat.lt_succ_iff_lt_or_eq.1 hq with hq | rfl
      · rw [up_ne _ _ (by omega)]
        exact (h.pend q j r' hq hq' hx1).le (hlights q j r' hq hq' hx1) (fun hb hm => hkeep.unborn _ hb hm) hkeep.next
      · rw [hp'] at hq'; cases hq'; exact absurd rfl hx2
    · intro q1 q2 j1 j2 r1 r2 hq hq2 h1 h2 hx1 hx2 ha1 ha2 hg1 hg2
      rcases Nat.lt_succ_iff_lt_or_eq.1 hq2 with hq2 | rfl
      · rw [up_ne _ _ (by omega)] at hg1
        rw [up_ne _ _ (by omega)] at hg2
        exact h.blocks q1 q2 j1 j2 r1 r2 hq hq2 h1 h2 (notX hx1).1 (notX hx2).1 ha1 ha2 hg1 hg2
      · rw [hp'] at h2; cases h2; exact absurd rfl (notX hx2).2
    · intro q j r' hq hq' hx
      rcases Nat.lt_succ_iff_lt_or_eq.1 hq with hq | rfl
      · exact h.low q j r' hq hq' (notX hx).1
      · rw [hp'] at hq'; cases hq'; exact absurd rfl (notX hx).2
    · intro t u hu hw
      by_cases hd : r.dst = some t
      · rw [hd, lookup_putE_self] at hu; cases hu
        rw [hd]
        exact ⟨v', putA_self a v' (by rw [h.size]; exact hrok.lt t hd), hvv⟩
      · rw [lookup_putE hd] at hu
        rw [putA_ne a v' hd]
        obtain ⟨u', k1, k2⟩ := h.cur t u hu (fun q j r' hq hq' hd' => by
          rcases hw q j r' (Nat.lt_succ_of_lt hq) hq' hd' with rfl | hx
          · have := hL.one q n j r' r hq' hp'
            omega
          · exact hx)
        exact ⟨u', k1, k2.ext hext⟩
    · intro q j r' o' hq hq' ho' hx t ht u hu hw
      obtain ⟨hx1, hx2⟩ := notX hx
      rcases Nat.lt_succ_iff_lt_or_eq.1 hq with hq | rfl
      · rw [up_ne _ _ (by omega)] at hu
        have hd : r.dst ≠ some t := by
          intro hd
          have hpair := hL.pair q n j i r' r o' o hq hq' hp' ho' ho
          rw [ahead q j r' hq hq' hx1] at hpair
          exact absurd ht (hpair.bwd rfl t hd)
        rw [putA_ne a v' hd]
        obtain ⟨u', k1, k2⟩ := h.opnd q j r' o' hq hq' ho' hx1 t ht u hu (fun q2 j2 r2 h1 h2 hd' => by
          rcases hw q2 j2 r2 h1 h2 hd' with rfl | hx
          · have := hL.one q2 n j2 r2 r h2 hp'
            omega
          · exact hx)
        exact ⟨u', k1, k2.ext hext⟩
      · rw [hp'] at hq'; cases hq'; exact absurd rfl hx2
    · intro q j r' d hq hq' hx hd
      rcases Nat.lt_succ_iff_lt_or_eq.1 hq with hq | rfl
      · obtain ⟨o', ho', _⟩ := hL.rok q j r' hq'
        have := (hL.pair q n j i r' r o' o hq hq' hp' ho' ho).ssa d hd
        rw [lookup_putE this]
        exact h.val q j r' d hq hq' (notX hx).1 hd
      · rw [hp'] at hq'; cases hq'; exact absurd rfl (notX hx).2
    · intro q1 q2 j r' d hq hq2 h1 hx hd
      rcases Nat.lt_succ_iff_lt_or_eq.1 hq2 with hq2 | rfl
      · rw [up_ne _ _ (by omega)]
        exact h.valE q1 q2 j r' d hq hq2 h1 (notX hx).1 hd
      · rw [up_self]
        exact h.val q1 j r' d hq h1 (notX hx).1 hd
    · intro q t hq hz
      have hne : r.dst ≠ some t := hz n i r (by omega) (Nat.lt_succ_self _) hp'
      rw [lookup_putE hne]
      rcases Nat.lt_succ_iff_lt_or_eq.1 hq with hq | rfl
      · rw [up_ne _ _ (by omega)]
        exact h.agree q t hq (fun z k u h1 h2 => hz z k u h1 (Nat.lt_succ_of_lt h2))
      · rw [up_self]
  cases hg : guardOf env r.guard with
  | none => rw [hg] at hrun; exact hrun.elim
  | some g =>
    have hgw := guard_eq (a := a) (μ := μ) hrok hg (fun t want hrg u hu => hread t (List.mem_append_right _ (by rw [hrg]; simp)) u hu)
    rw [hg] at hrun
    cases g with
    | false =>
      have hrun := hrun.2 rfl
      refine wpOp_skip ho hgw ?_
      exact fin undef st μ undef w VRel.undef h.sim (Ext.refl _) (Keep.refl _ _) hrun (fun _ _ _ _ _ _ _ _ _ hl => hl)
    | true =>
      have hrun := hrun.1 rfl
      have hok := hrok.op
      cases hopr : r.op with
      | light l => rw [hopr] at hv; simp [COp.isHeavy] at hv
      | alloc A => rw [hopr] at hv; simp [COp.isHeavy] at hv
      | heavy hh =>
        rw [hopr] at hrun hok
        simp only [COp.step] at hrun
        cases hev : hh.eval w0 env st with
        | none => simp [hev] at hrun
        | some q =>
          obtain ⟨v, st'⟩ := q
          simp only [hev] at hrun
          refine wpOp_heavy ho hgw hok hev h.sim hop fun v' w' μ' hvv hs' hext hkeep => ?_
          refine fin v st' μ' v' w' hvv hs' hext hkeep hrun.2 ?_
          intro q j r' hq hq' hx l u hl hu
          by_cases hrd : l.readsHeap = false
          · rw [eval_indep hrd (E q) st' st]; exact hu
          · have hrd' : l.readsHeap = true := by simpa using hrd
            obtain ⟨o', ho', _⟩ := hL.rok q j r' hq'
            have hb := ahead q j r' hq hq' hx
            have hpair := hL.pair q n j i r' r o' o hq hq' hp' ho' ho
            rw [hb] at hpair
            have hmem := hpair.heavy rfl l hl hrd' hh hopr
            have hsame := (hrun.1 l hmem).2
            have hag : ∀ s, l.eval P w0 (E q) s = l.eval P w0 env s := fun s => eval_env (fun t ht => (h.agree q t hq (fun z k u' h1 h2 hz => by
              have hk := hL.keep q n z j i k r' r u' l hh h1 h2 hq' hp' hz hl hrd' hopr hb
              intro hd; exact hk t hd ht)).symm) s
            rw [hag, hsame, ← hag]; exact hu
      | call f args =>
        rw [hopr] at hrun hok
        simp only [COp.step] at hrun
        cases hev : evalArgs env args with
        | none => simp [hev] at hrun
        | some vs =>
          simp only [hev] at hrun
          refine wpOp_call ho hgw hok hev hrun h.sim hop fun v v' w' μ' st' hq hvv hs' hext hkeep => ?_
          refine fin v st' μ' v' w' hvv hs' hext hkeep hq.2 ?_
          intro q j r' hq1 hq' hx l u hl hu
          by_cases hrd : l.readsHeap = false
          · rw [eval_indep hrd (E q) st' st]; exact hu
          · have hrd' : l.readsHeap = true := by simpa using hrd
            obtain ⟨o', ho', _⟩ := hL.rok q j r' hq'
            have hpair := hL.pair q n j i r' r o' o hq1 hq' hp' ho' ho
            rw [ahead q j r' hq1 hq' hx] at hpair
            have hquiet := hpair.call rfl l hl hrd' f args hopr
            exact eval_le (hq.1 hquiet) (fun b hb => (h.sim.fresh b hb).2) hu

end
end Go.Proofs.Ytnndjlgkhfinjaa.V
