/-
  The abstract semantics 'V', part 10: regions.
-/
import Derived.Test.YtnndjlgkhfinjaaV9
set_option linter.all false
set_option linter.unusedSimpArgs false
set_option linter.unusedVariables false
set_option linter.unnecessarySimpa false
namespace Go.Proofs.Ytnndjlgkhfinjaa.V
open Go Go.RowKit

section
variable (P : Program) (w0 : World) (N : Nat)

/-- A compiled operation has to do with the model's. -/
structure ROk (ops : Array Oper) (o : Oper) (r : ROp) : Prop where
  dst : r.dst = o.dst
  lt : ∀ d, r.dst = some d → d < N
  op : COk P o r.op
  guard : match o.guard, r.guard with
    | none, none => True
    | some (j, want), some (t, want') => want' = want ∧ (ops[j]?).bind (·.dst) = some t
    | _, _ => False

/-- Where a piece of code comes to. -/
def Goes (K : Env → St → Prop) (μ : Mp) (st : St) (a : Act) (w : World) : Prop :=
  ∃ env' st' μ', K env' st' ∧ Sim P w0 μ' st' w ∧ EnvRel P w0.heap.size N μ' env' a.tmps ∧ a.defers = [] ∧ Ext μ μ' ∧ Keep μ st μ' st'

variable {P w0 N}
variable {ops : Array Oper} {Q : Exit → Act → World → Prop} {i : Nat} {o : Oper} {K : Env → St → Prop} {a : Act} {w : World} {μ : Mp} {env : Env} {st : St}

theorem Goes.pre {μ' : Mp} {st' : St} (he : Ext μ μ') (hk : Keep μ st μ' st') (h : Goes P w0 N K μ' st' a w) : Goes P w0 N K μ st a w := by
  obtain ⟨env', st'', μ'', h1, h2, h3, h4, h5, h6⟩ := h
  exact ⟨env', st'', μ'', h1, h2, h3, h4, he.trans h5, hk.trans h6⟩

/-- A guard says the same on both sides. -/
theorem guard_eq {r : ROp} (hr : ROk P N ops o r) {b : Bool} (hg : guardOf env r.guard = some b)
    (hrel : ∀ t want, r.guard = some (t, want) → ∀ u, env.lookup t = some u → ∃ u', a.tmps[t]? = some u' ∧ VRel P w0.heap.size μ u u') :
    Region.wanted o (yielded ops a.tmps) = b := by
  have h := hr.guard
  unfold Region.wanted
  cases hog : o.guard with
  | none =>
    rw [hog] at h
    cases hrg : r.guard with
    | none => rw [hrg] at hg; simp only [guardOf, Option.some.injEq] at hg; exact hg
    | some q => rw [hrg] at h; exact h.elim
  | some q =>
    obtain ⟨j, want⟩ := q
    rw [hog] at h
    cases hrg : r.guard with
    | none => rw [hrg] at h; exact h.elim
    | some q' =>
      obtain ⟨t, want'⟩ := q'
      rw [hrg] at h hg
      simp only at h
      obtain ⟨rfl, hj⟩ := h
      simp only [guardOf] at hg
      cases hl : env.lookup t with
      | none => simp [hl] at hg
      | some u =>
        obtain ⟨u', h1, h2⟩ := hrel t want' hrg u hl
        rw [hl] at hg
        simp only [yielded, hj, Option.bind_some, h1]
        cases u with
        | bool c =>
          simp only [Option.some.injEq] at hg
          rw [h2.bool_eq]
          simp only
          rw [← hg]
          cases c <;> cases want' <;> rfl
        | tuple xs =>
          simp only [Option.some.injEq] at hg
          obtain ⟨ys, rfl, _⟩ := h2.tuple_inv
          simp only
          rw [← hg]
          rfl
        | _ => simp at hg

theorem EnvRel.putE {r : ROp} (hr : ROk P N ops o r) (he : EnvRel P w0.heap.size N μ env a.tmps) {v v' : Value} (hv : VRel P w0.heap.size μ v v') :
    EnvRel P w0.heap.size N μ (putE r.dst v env) (a.put o.dst v').tmps := by
  rw [← hr.dst]
  cases hd : r.dst with
  | none => exact he
  | some d => exact he.put (hr.lt d hd) hv

theorem put_defers (a : Act) (d : Option Tmp) (v : Value) : (a.put d v).defers = a.defers := by cases d <;> rfl

theorem EnvRel.opRel (he : EnvRel P w0.heap.size N μ env a.tmps) (o : Oper) : OpRel P w0.heap.size μ env a o := fun _ _ _ hu => he.eval hu

/-- Operations in the order of the text. -/
theorem region_text : ∀ (is : List Nat) (rs : List ROp) (μ : Mp) (st : St) (env : Env) (a : Act) (w : World), All2 (fun i r => ∃ o, ops[i]? = some o ∧ ROk P N ops o r) is rs →
    wpR P w0 rs K env st → Sim P w0 μ st w → EnvRel P w0.heap.size N μ env a.tmps → a.defers = [] → (∀ a' w', Goes P w0 N K μ st a' w' → Q .normal a' w') →
    wpOps P ops Q is a w := by
  intro is
  induction is with
  | nil =>
    intro rs μ st env a w hf hw hs he hd hq
    cases hf
    exact hq a w ⟨env, st, μ, hw, hs, he, hd, Ext.refl _, Keep.refl _ _⟩
  | cons i is ih =>
    intro rs μ st env a w hf hw hs he hd hq
    cases hf with
    | cons hr hrest =>
      rename_i r rs
      obtain ⟨o, ho, hr⟩ := hr
      rw [wpOps_cons]
      simp only [wpR] at hw
      cases hg : guardOf env r.guard with
      | none => rw [hg] at hw; exact hw.elim
      | some b =>
        have hgw := guard_eq (a := a) (μ := μ) hr hg (fun t want _ u hu => he.rel t u hu)
        rw [hg] at hw
        cases b with
        | false =>
          have hw := hw.2 rfl
          refine wpOp_skip ho hgw ?_
          exact ih rs μ st _ _ w hrest hw hs (he.putE hr VRel.undef) (by rw [put_defers]; exact hd) hq
        | true =>
          have hw := hw.1 rfl
          have hok := hr.op
          cases hop : r.op with
          | light l =>
            rw [hop] at hw hok
            simp only [COp.step] at hw
            cases hev : l.eval P w0 env st with
            | none => simp [hev] at hw
            | some v =>
              simp only [hev] at hw
              refine wpOp_light ho hgw hok hev hs (he.opRel o) fun v' hv => ?_
              exact ih rs μ st _ _ w hrest hw hs (he.putE hr hv) (by rw [put_defers]; exact hd) hq
          | alloc A =>
            rw [hop] at hw hok
            simp only [COp.step] at hw
            cases hev : A.eval env with
            | none => simp [hev] at hw
            | some q =>
              obtain ⟨bk, mk⟩ := q
              simp only [hev] at hw
              refine wpOp_alloc ho hgw hok hev (he.opRel o) fun obj v' hobj hv => ?_
              have hn := (hs.fresh st.next (Nat.le_refl _)).1
              have hs1 := (hs.ahead bk).birth (b := st.next) (by simp [St.alloc]) hn (Nat.lt_succ_self _) hobj
              have hext := Ext.upd hn (locOf w.heap.size obj)
              have hkeep : Keep μ st (upd μ st.next (locOf w.heap.size obj)) (st.alloc bk) :=
                ⟨Nat.le_succ _, fun b hb hm => ⟨by rw [upd_other _ _ (by omega)]; exact hm, by simp [St.alloc, Nat.ne_of_lt hb]⟩⟩
              exact ih rs _ _ _ _ _ hrest hw hs1 ((he.ext hext).putE hr (hv _ _ (upd_self _ _ _))) (by rw [put_defers]; exact hd)
                (fun a' w' hgo => hq a' w' (hgo.pre hext hkeep))
          | heavy h =>
            rw [hop] at hw hok
            simp only [COp.step] at hw
            cases hev : h.eval w0 env st with
            | none => simp [hev] at hw
            | some q =>
              obtain ⟨v, st'⟩ := q
              simp only [hev] at hw
              refine wpOp_heavy ho hgw hok hev hs (he.opRel o) fun v' w' μ' hv hs' hext hkeep => ?_
              exact ih rs _ _ _ _ _ hrest hw.2 hs' ((he.ext hext).putE hr hv) (by rw [put_defers]; exact hd)
                (fun a' w' hgo => hq a' w' (hgo.pre hext hkeep))
          | call f args =>
            rw [hop] at hw hok
            simp only [COp.step] at hw
            cases hev : evalArgs env args with
            | none => simp [hev] at hw
            | some vs =>
              simp only [hev] at hw
              refine wpOp_call ho hgw hok hev hw hs (he.opRel o) fun v v' w' μ' st' hk hv hs' hext hkeep => ?_
              exact ih rs _ _ _ _ _ hrest hk.2 hs' ((he.ext hext).putE hr hv) (by rw [put_defers]; exact hd)
                (fun a' w' hgo => hq a' w' (hgo.pre hext hkeep))

end
end Go.Proofs.Ytnndjlgkhfinjaa.V
