/-
  The abstract semantics 'V', part 13: whatever order the model draws.
-/
import Derived.Test.YtnndjlgkhfinjaaV12
set_option linter.all false
set_option linter.unusedSimpArgs false
set_option linter.unusedVariables false
set_option linter.unnecessarySimpa false
namespace Go.Proofs.Ytnndjlgkhfinjaa.V
open Go Go.RowKit

section
variable {P : Program} {w0 : World} {N : Nat} {ops : Array Oper} {L : List (Nat × ROp)} {K : Env → St → Prop} {μ0 : Mp} {st0 : St}

theorem Inv.goes (hL : SchedOk P N ops L) {n : Nat} {X : Nat → Prop} {E : Nat → Env} {V : Nat → Value} {B : Nat → Nat} {env : Env} {st : St} {μ : Mp} {a : Act} {w : World}
    (h : Inv P w0 N ops L K μ0 st0 n X E V B env st μ a w) (hall : ∀ i, i < ops.size → X i) : Goes P w0 N K μ0 st0 a w := by
  have hX : ∀ (p i : Nat) (r : ROp), L[p]? = some (i, r) → X i := by
    intro p i r hp
    obtain ⟨o, ho, _⟩ := hL.rok p i r hp
    exact hall i (Array.getElem?_eq_some_iff.1 ho).1
  have hnil : L.drop n = [] := by
    rw [List.drop_eq_nil_iff]
    rcases Nat.lt_or_ge n L.length with hlt | hge
    · obtain ⟨i, r⟩ : Nat × ROp := L[n]
      have hn : L[n]? = some (L[n].1, L[n].2) := by simp [hlt]
      obtain ⟨p, r', k1, k2⟩ := h.done _ (hX n _ _ hn)
      have := hL.one p n _ _ _ k2 hn
      omega
    · exact hge
  have hrun := h.run
  rw [hnil] at hrun
  exact ⟨env, st, μ, hrun, h.sim, ⟨h.size, fun t u hu => h.cur t u hu (fun p i r _ hp _ => hX p i r hp)⟩, h.dfr, h.ext, h.kp⟩

theorem Inv.ahead_to (hL : SchedOk P N ops L) {X : Nat → Prop} {μ : Mp} {a : Act} {w : World} : ∀ (k n : Nat) (E : Nat → Env) (V : Nat → Value) (B : Nat → Nat) (env : Env) (st : St),
    Inv P w0 N ops L K μ0 st0 n X E V B env st μ a w → (∀ z, n ≤ z → z < n + k → ∃ i r, L[z]? = some (i, r) ∧ ¬ X i ∧ r.op.isHeavy = false) →
    ∃ E V B env st, Inv P w0 N ops L K μ0 st0 (n + k) X E V B env st μ a w := by
  intro k
  induction k with
  | zero => intro n E V B env st h _; exact ⟨E, V, B, env, st, h⟩
  | succ k ih =>
    intro n E V B env st h hz
    obtain ⟨i, r, h1, h2, h3⟩ := hz n (Nat.le_refl _) (by omega)
    obtain ⟨E', V', B', env', st', h'⟩ := h.ahead hL h1 h2 h3
    have := ih (n + 1) E' V' B' env' st' h' (fun z hz1 hz2 => hz z (by omega) (by omega))
    rw [show n + 1 + k = n + (k + 1) by omega] at this
    exact this

def listedX (listed : Array Bool) : Nat → Prop := fun i => listed.getD i false = true

theorem listed_set (listed : Array Bool) {i : Nat} (hi : i < listed.size) : (fun j => j = i ∨ listedX listed j) = listedX (listed.setIfInBounds i true) := by
  funext j
  apply propext
  simp only [listedX, Array.getD_eq_getD_getElem?, Array.getElem?_setIfInBounds]
  by_cases e : i = j
  · subst e; simp [hi]
  · simp [e, Ne.symm e]

theorem sched (hL : SchedOk P N ops L) {Q : Exit → Act → World → Prop} (hq : ∀ a' w', Goes P w0 N K μ0 st0 a' w' → Q .normal a' w') :
    ∀ (fuel : Nat) (listed : Array Bool) (n : Nat) (E : Nat → Env) (V : Nat → Value) (B : Nat → Nat) (env : Env) (st : St) (μ : Mp) (a : Act) (w : World),
    listed.size = ops.size → listed.toList.countP (fun b => !b) ≤ fuel → Inv P w0 N ops L K μ0 st0 n (listedX listed) E V B env st μ a w → wpAny P .any ops Q fuel listed a w := by
  have fin : ∀ (listed : Array Bool) (n : Nat) (E : Nat → Env) (V : Nat → Value) (B : Nat → Nat) (env : Env) (st : St) (μ : Mp) (a : Act) (w : World),
      listed.size = ops.size → Region.ready .any ops listed = [] → Inv P w0 N ops L K μ0 st0 n (listedX listed) E V B env st μ a w → Q .normal a w := by
    intro listed n E V B env st μ a w hsz hready h
    refine hq a w (h.goes hL ?_)
    intro i
    induction i using Nat.strongRecOn with
    | _ i ih =>
      intro hi
      by_cases hx : listedX listed i
      · exact hx
      · exfalso
        have hi' : i < listed.size := by omega
        have hfalse : listed[i] = false := by
          simp only [listedX, Array.getD_eq_getD_getElem?, Array.getElem?_eq_getElem hi', Option.getD_some] at hx
          simpa using hx
        have : i ∈ Region.ready .any ops listed := by
          simp only [Region.ready, List.mem_filter, List.mem_range]
          refine ⟨hi, ?_⟩
          simp only [Bool.and_eq_true]
          refine ⟨by simp [Array.getD_eq_getD_getElem?, hi', hfalse], ?_⟩
          rw [Array.getElem?_eq_getElem hi]
          simp only [Option.map_some, Option.getD_some, Array.all_eq_true_iff_forall_mem]
          intro e he
          by_cases hb : Region.binds .any e = true
          · have hlt := hL.back i ops[i] (by simp [hi]) e (by simpa using he) hb
            have := ih e.on hlt (by omega)
            simp only [listedX] at this
            simp [this]
          · simp [hb]
        rw [hready] at this
        cases this
  intro fuel
  induction fuel with
  | zero =>
    intro listed n E V B env st μ a w hsz hcount h
    have hready : Region.ready .any ops listed = [] := by
      rw [List.eq_nil_iff_forall_not_mem]
      intro i hi
      simp only [Region.ready, List.mem_filter, List.mem_range, Bool.and_eq_true] at hi
      obtain ⟨h1, h2, _⟩ := hi
      have hi' : i < listed.size := by omega
      have hc : listed.toList.countP (fun b => !b) = 0 := by omega
      rw [List.countP_eq_zero] at hc
      have := hc listed[i] (by simp)
      simp [Array.getD_eq_getD_getElem?, hi'] at h2 this
      rw [h2] at this; cases this
    exact ⟨hready, fin listed n E V B env st μ a w hsz hready h⟩
  | succ fuel ih =>
    intro listed n E V B env st μ a w hsz hcount h
    refine ⟨fun hready => fin listed n E V B env st μ a w hsz hready h, ?_⟩
    intro i hi
    simp only [Region.ready, List.mem_filter, List.mem_range, Bool.and_eq_true] at hi
    obtain ⟨h1, h2, h3⟩ := hi
    have hi' : i < listed.size := by omega
    have hfalse : listed[i] = false := by simpa [Array.getD_eq_getD_getElem?, hi'] using h2
    have hx : ¬ listedX listed i := by simp [listedX, Array.getD_eq_getD_getElem?, hi', hfalse]
    have hready : ∀ o, ops[i]? = some o → ∀ e ∈ o.after.toList, Region.binds .any e = true → listedX listed e.on := by
      intro o ho e he hb
      rw [ho] at h3
      simp only [Option.map_some, Option.getD_some, Array.all_eq_true_iff_forall_mem] at h3
      have := h3 e (by simpa using he)
      simp only [hb, Bool.not_true, Bool.false_or] at this
      exact this
    have hcount' : (listed.setIfInBounds i true).toList.countP (fun b => !b) ≤ fuel := by
      rw [Array.toList_setIfInBounds, List.countP_set (by simpa using hi')]
      have hpos : 0 < listed.toList.countP (fun b => !b) := by
        rw [List.countP_pos_iff]
        exact ⟨listed[i], by simp, by simp [hfalse]⟩
      have hp1 : (!(listed.toList[i]'(by simpa using hi'))) = true := by simp [hfalse]
      rw [if_pos hp1, if_neg (by simp)]
      omega
    have hsz' : (listed.setIfInBounds i true).size = ops.size := by simpa using hsz
    -- what follows once the operation is done
    have go : ∀ n E V B env st μ a' w', Inv P w0 N ops L K μ0 st0 n (fun j => j = i ∨ listedX listed j) E V B env st μ a' w' →
        wpAny P .any ops Q fuel (listed.setIfInBounds i true) a' w' := by
      intro n E V B env st μ a' w' hinv
      rw [listed_set listed hi'] at hinv
      exact ih _ n E V B env st μ a' w' hsz' hcount' hinv
    obtain ⟨p, r, hp⟩ := hL.all i h1
    have exec : ∀ n E V B env st μ, p < n → Inv P w0 N ops L K μ0 st0 n (listedX listed) E V B env st μ a w → wpOp P ops Q i (wpAny P .any ops Q fuel (listed.setIfInBounds i true)) a w := by
      intro n E V B env st μ hpn hinv
      exact hinv.exec hL hpn hp hx hready (fun μ' a' w' hinv' => go n E V B env st μ' a' w' hinv')
    by_cases hpn : p < n
    · exact exec n E V B env st μ hpn h
    · -- the abstract run goes ahead
      have hmid : ∀ z, n ≤ z → z < n + (p - n) → ∃ j r', L[z]? = some (j, r') ∧ ¬ listedX listed j ∧ r'.op.isHeavy = false := by
        intro z hz1 hz2
        have hzp : z < p := by omega
        have hplen : p < L.length := (List.getElem?_eq_some_iff.1 hp).1
        have hz : L[z]? = some (L[z].1, L[z].2) := by simp [Nat.lt_trans hzp hplen]
        refine ⟨_, _, hz, ?_, ?_⟩
        · intro hxz
          obtain ⟨q, r', k1, k2⟩ := h.done _ hxz
          have := hL.one q z _ _ _ k2 hz
          omega
        · obtain ⟨o, ho, _⟩ := hL.rok p i r hp
          obtain ⟨o', ho', _⟩ := hL.rok z _ _ hz
          have hpair := hL.pair z p _ i _ r o' o hzp hz hp ho' ho
          cases hb : bit ((ancM ops.toList []).getD i 0) L[z].1 with
          | false => rw [hb] at hpair; exact hpair.light rfl
          | true =>
            exfalso
            have hxz : listedX listed L[z].1 := by
              refine anc_done h.closed hready hb ?_
              intro e
              have := hL.one z p i L[z].2 r (by rw [← e]; exact hz) hp
              omega
            obtain ⟨q, r', k1, k2⟩ := h.done _ hxz
            have := hL.one q z _ _ _ k2 hz
            omega
      obtain ⟨E1, V1, B1, env1, st1, hinv⟩ := Inv.ahead_to hL (p - n) n E V B env st h hmid
      rw [show n + (p - n) = p by omega] at hinv
      cases hh : r.op.isHeavy with
      | true =>
        exact hinv.execH hL hp hh hx hready (fun env' st' μ' a' w' hinv' => go _ _ _ _ env' st' μ' a' w' hinv')
      | false =>
        obtain ⟨E2, V2, B2, env2, st2, hinv2⟩ := hinv.ahead hL hp hx hh
        exact exec (p + 1) E2 V2 B2 env2 st2 μ (Nat.lt_succ_self _) hinv2

/-- A region whose order the model draws. -/
theorem region_drawn (hL : SchedOk P N ops L) (hm : P.follows .mixedOrders = true) {env : Env} {a : Act} {w : World} {id : Nat} {Q : Exit → Act → World → Prop}
    (hw : wpR P w0 (L.map (·.2)) K env st0) (hs : Sim P w0 μ0 st0 w) (he : EnvRel P w0.heap.size N μ0 env a.tmps) (hd : a.defers = [])
    (hq : ∀ a' w', Goes P w0 N K μ0 st0 a' w' → Q .normal a' w') : (Code.region id ops true).wp P Q a w := by
  refine wp_region_any hm ?_
  have hnone : ∀ i, ¬ listedX (Array.replicate ops.size false) i := by
    intro i h
    simp only [listedX, Array.getD_eq_getD_getElem?, Array.getElem?_replicate] at h
    split at h <;> simp at h
  refine sched hL hq ops.size _ 0 (fun _ => []) (fun _ => undef) (fun _ => 0) env st0 μ0 a w.drew (by simp) (by simp [List.countP_replicate]) ?_
  refine ⟨by simpa using hw, hs.drew, Ext.refl _, Keep.refl _ _, hd, he.size, ?_, ?_, ?_, ?_, ?_, ?_, ?_, ?_, ?_, ?_, ?_⟩
  · intro i h; exact absurd h (hnone i)
  · intro i h; exact absurd h (hnone i)
  · intro p i r h; omega
  · intro p i r h; omega
  · intro p q i j r r' h h'; omega
  · intro p i r h; omega
  · intro t u hu _; exact he.rel t u hu
  · intro p i r o h; omega
  · intro p i r d h; omega
  · intro p q i r d h h'; omega
  · intro p t h; omega

end
end Go.Proofs.Ytnndjlgkhfinjaa.V
