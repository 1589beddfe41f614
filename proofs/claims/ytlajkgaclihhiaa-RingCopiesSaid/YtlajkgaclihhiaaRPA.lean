/-
  Walks of functions of the program, and what the laws need of them.
-/
import Derived.Test.YtlajkgaclihhiaaRF
import Derived.Test.YtlajkgaclihhiaaVI
set_option linter.all false
set_option linter.unusedSimpArgs false
set_option linter.unusedVariables false
set_option linter.unnecessarySimpa false
namespace Go.Proofs.Ytlajkgaclihhiaa
set_option maxRecDepth 20000
open Go Go.Proofs.Ytlajkgaclihhiaa.V Go.Proofs
structure Entry where
 addr : Int
 val : Int
def cEntry (e : Entry) : List TV := [tI e.addr, tI e.val]
theorem sh_entry : shapeOf prog 10000 ty_api_Entry = some [.i .i64, .i .i64] := by kernel_rfl
theorem ag_entry : (prog.underlying ty_api_Entry).map aggD = some true := by kernel_rfl
theorem eg_entry : prog.eqGuardType prog.depth ty_api_Entry = false := by kernel_rfl
def entryE (x y : Entry) : Bool := beqL [.int .i64 x.addr, .int .i64 x.val] [.int .i64 y.addr, .int .i64 y.val]
theorem entryE_iff (x y : Entry) : entryE x y = true ↔ x = y := by
 obtain ⟨a, b⟩ := x
 obtain ⟨c, d⟩ := y
 simp [entryE, beqL, beqA]
theorem same_self {α : Type} {e : α → α → Bool} (he : ∀ x y, e x y = true ↔ x = y) (l : List α) : sameL e l l = true := (sameL_eq he l l).2 rfl
theorem st_entry : (prog.underlying ty_api_Entry).bind stTys = some [ty_int, ty_int64] := by kernel_rfl
theorem un_buf : prog.underlying ty_sl_api_Entry = some (.slice ty_api_Entry) := by kernel_rfl
theorem ce_entry : prog.cellsOf ty_api_Entry = 2 := by kernel_rfl
theorem un_int : prog.underlying ty_int = some (.int .i64) := by kernel_rfl
theorem un_int64 : prog.underlying ty_int64 = some (.int .i64) := by kernel_rfl
theorem entry_ty {d : Nat} {cs : List TV} (h : TyL prog (d + 2) ty_api_Entry cs) : ∃ a : Entry, cs = cEntry a := by
 obtain ⟨xs, rfl, k⟩ := tl_st st_entry h
 cases k with | cons g0 k =>
 cases k with | cons g1 k =>
 cases k
 obtain ⟨a0, rfl, _⟩ := tl_int un_int g0
 obtain ⟨a1, rfl, _⟩ := tl_int un_int64 g1
 exact ⟨⟨a0, a1⟩, rfl⟩
section
variable {G : World → Prop}
theorem sameEntries_spec (a b : List Entry) : Pure prog G n_ref2_SameEntries [.lst 2 (a.map cEntry), .lst 2 (b.map cEntry)] (tB (sameL entryE a b)) := by
 refine Pure.of mixedOk (fn := f_ref2_SameEntries) (by kernel_rfl) (by kernel_rfl) ok_ref2_SameEntries rfl fun C hP hG hp => ?_
 exact same_walk (f := cEntry) (g := fun x => .agg (cEntry x)) a b hp (fun _ => rfl) (fun env σ x y h1 h2 => tl_nes (by rw [hP]; exact sh_entry) (by rw [hP]; exact ag_entry) (by rw [hP]; exact eg_entry) h1 h2 rfl rfl rfl rfl)
end
theorem eqE_t (l : List Entry) : sameL entryE l l = true := same_self entryE_iff l
theorem ents_ty {d : Nat} {x : TV} (h : TyV prog (d + 3) x ty_sl_api_Entry) : ∃ l : List Entry, x = .lst 2 (l.map cEntry) := by
 obtain ⟨xs, e, k⟩ := tl_sli un_buf ce_entry (tv_sli un_buf h)
 cases e
 obtain ⟨l, rfl⟩ := map_of' (c := cEntry) fun x hx => entry_ty (k x hx)
 exact ⟨l, rfl⟩
section
attribute [local irreducible] TwS TwR thenT inBlockT retT
variable {G : World → Prop}
theorem pick_spec (n : Int) (m : Nat) (hm : m + 1 < 1000000000) : Pure prog G n_book_Pick [tI n, tI ((m + 1 : Nat) : Int)] (tI (n % ((m + 1 : Nat) : Int))) := by
 refine Pure.of mixedOk (fn := f_book_Pick) (by kernel_rfl) (by kernel_rfl) ok_book_Pick rfl fun C hP hG hp => ?_
 simp only [fs_book_Pick, targEnv, Nat.zero_add, Nat.reduceAdd]
 have h1 : (m : Int) + 1 = ((m + 1 : Nat) : Int) := by omega
 have h2 : n.tmod ((m + 1 : Nat) : Int) < 0 → n % ((m + 1 : Nat) : Int) = n.tmod ((m + 1 : Nat) : Int) + ((m + 1 : Nat) : Int) := by
  intro h
  have e1 := Int.emod_emod_of_dvd (n.tmod ((m + 1 : Nat) : Int)) (Int.dvd_refl ((m + 1 : Nat) : Int))
  have e2 : n % ((m + 1 : Nat) : Int) = (n.tmod ((m + 1 : Nat) : Int)) % ((m + 1 : Nat) : Int) := by
   have := Int.mul_tdiv_add_tmod n ((m + 1 : Nat) : Int)
   conv => lhs; rw [← this]
   rw [Int.add_comm, Int.add_mul_emod_self_left]
  have e3 := Int.lt_tmod_of_pos n (show (0 : Int) < ((m + 1 : Nat) : Int) by omega)
  rw [e2, ← Int.add_emod_right]
  exact Int.emod_eq_of_lt (by omega) (by omega)
 have h3 : ¬ n.tmod ((m + 1 : Nat) : Int) < 0 → n % ((m + 1 : Nat) : Int) = n.tmod ((m + 1 : Nat) : Int) := by
  intro h
  have e2 : n % ((m + 1 : Nat) : Int) = (n.tmod ((m + 1 : Nat) : Int)) % ((m + 1 : Nat) : Int) := by
   have := Int.mul_tdiv_add_tmod n ((m + 1 : Nat) : Int)
   conv => lhs; rw [← this]
   rw [Int.add_comm, Int.add_mul_emod_self_left]
  have e3 := Int.tmod_lt_of_pos n (show (0 : Int) < ((m + 1 : Nat) : Int) by omega)
  rw [e2]
  exact Int.emod_eq_of_lt (by omega) (by omega)
 have e3 := Int.lt_tmod_of_pos n (show (0 : Int) < ((m + 1 : Nat) : Int) by omega)
 repeat' (first | refine ts_seq (fun K hK hW => ?_) | refine ts_reg ?_ | refine tr_nil ?_ | refine tr_ev rfl ?_ | refine use_K (by assumption) ?_ | refine tr_guard_u rfl ?_ | refine tr_guard_y rfl rfl ?_ | refine tr_guard_n rfl rfl ?_ | refine tr_alloc rfl ?_ | refine tr_store rfl rfl rfl rfl rfl rfl rfl ?_ | refine ts_cond_t rfl rfl ?_ | refine ts_cond_f rfl rfl ?_ | refine ts_nop ?_ | refine ts_block ?_ | refine ts_exit ?_ | refine ts_ret ?_ | refine th_exit ?_ | refine th_ret ?_ | refine bl_normal ?_ | refine bl_ret ?_ | refine bl_hit ?_ | refine bl_miss rfl ?_ | refine tret_of (.inr rfl) rfl ?_ | (refine tg_split rfl (fun h => ?_) (fun h => ?_) <;> try simp only [bs0, beq_iff_eq] at h) | (refine ts_cond rfl (fun h => ?_) (fun h => ?_) <;> try simp only [bs0, beq_iff_eq] at h) | fail)
 ·rw [w64 (by omega), h2 h]; exact .fr rfl
 ·rw [h3 h]; exact .fr rfl
end
end Go.Proofs.Ytlajkgaclihhiaa
namespace Go.Proofs.Ytlajkgaclihhiaa
set_option maxRecDepth 20000
open Go Go.Proofs.Ytlajkgaclihhiaa.V Go.Proofs
def zE : Entry := ⟨0, 0⟩
structure Rg where
 l : List Entry
 p : Nat
 n : Nat
def Rg.new : Rg := ⟨[], 0, 0⟩
def Rg.plc (r : Rg) (k : Nat) : Nat := (r.p + k) % r.l.length
def Rg.get (r : Rg) (k : Nat) : Entry := r.l.getD (r.plc k) zE
def Rg.list (r : Rg) : List Entry := (List.range r.n).map r.get
def Rg.push (r : Rg) (e : Entry) : Rg := if r.n = r.l.length then ⟨(r.list ++ List.replicate (r.n + 2) zE).set r.n e, 0, r.n + 1⟩ else ⟨r.l.set (r.plc r.n) e, r.p, r.n + 1⟩
def Rg.pop (r : Rg) : Rg := ⟨r.l, r.plc 1, r.n - 1⟩
structure Rg.ok (r : Rg) : Prop where
 n : r.n ≤ r.l.length
 p : r.l = [] ∨ r.p < r.l.length
theorem Rg.new_ok : Rg.new.ok := ⟨Nat.le_refl _, .inl rfl⟩
theorem Rg.list_len (r : Rg) : r.list.length = r.n := by rw [Rg.list, List.length_map, List.length_range]
theorem Rg.list_get {r : Rg} {k : Nat} (h : k < r.n) : r.list[k]? = some (r.get k) := by
 rw [Rg.list, List.getElem?_map, List.getElem?_range h]; rfl
theorem Rg.plc_lt {r : Rg} (h : r.l ≠ []) (k : Nat) : r.plc k < r.l.length := Nat.mod_lt _ (List.length_pos_iff.2 h)
theorem mod_two {a k L : Nat} (h : a < L) (h' : k ≤ L) : (a + k) % L = if a + k < L then a + k else a + k - L := by
 split
 ·exact Nat.mod_eq_of_lt ‹_›
 ·rw [Nat.mod_eq_sub_mod (by omega), Nat.mod_eq_of_lt (by omega)]
theorem list_ext {α : Type} {f g : Nat → α} : ∀ (n : Nat), (∀ k, k < n → f k = g k) → (List.range n).map f = (List.range n).map g := fun n h => List.map_congr_left fun k hk => h k (List.mem_range.1 hk)
theorem Rg.push_list {r : Rg} (h : r.ok) (e : Entry) : (r.push e).list = r.list ++ [e] := by
 obtain ⟨hn, hp⟩ := h
 have key : ∀ (q : Rg), q.n = r.n + 1 → (∀ k, k < r.n → q.get k = r.get k) → q.get r.n = e → q.list = r.list ++ [e] := by
  intro q h1 h2 h3
  unfold Rg.list
  rw [h1, List.range_succ, List.map_append, List.map_singleton, h3, list_ext _ h2]
 unfold Rg.push
 split
 ·rename_i hf
  refine key _ rfl (fun k hk => ?_) ?_
  ·have hl := r.list_len
   show List.getD (List.set _ _ _) ((0 + k) % _) zE = _
   rw [List.getD_eq_getElem?_getD, List.length_set, List.length_append, List.length_replicate, hl, Nat.zero_add, Nat.mod_eq_of_lt (by omega), List.getElem?_set_ne (by omega), List.getElem?_append_left (by omega), Rg.list_get hk]
   rfl
  ·have hl := r.list_len
   show List.getD (List.set _ _ _) ((0 + r.n) % _) zE = _
   rw [List.getD_eq_getElem?_getD, List.length_set, List.length_append, List.length_replicate, hl, Nat.zero_add, Nat.mod_eq_of_lt (by omega), List.getElem?_set_self (by rw [List.length_append, List.length_replicate, hl]; omega)]
   rfl
 ·rename_i hf
  have hne : r.l ≠ [] := by intro h0; rw [h0] at hn hf; simp at hn hf; omega
  have hp := hp.resolve_left hne
  refine key _ rfl (fun k hk => ?_) ?_
  ·show List.getD (List.set _ _ _) ((r.p + k) % _) zE = _
   rw [List.getD_eq_getElem?_getD, List.length_set, List.getElem?_set_ne, ← List.getD_eq_getElem?_getD]
   ·rfl
   ·unfold Rg.plc
    rw [mod_two hp (by omega), mod_two hp (by omega)]
    split <;> split <;> omega
  ·show List.getD (List.set _ _ _) ((r.p + r.n) % _) zE = _
   rw [List.getD_eq_getElem?_getD, List.length_set, show (r.p + r.n) % r.l.length = r.plc r.n from rfl, List.getElem?_set_self (Rg.plc_lt hne _)]
   rfl
theorem Rg.push_ok {r : Rg} (h : r.ok) (e : Entry) : (r.push e).ok := by
 obtain ⟨hn, hp⟩ := h
 have hl := r.list_len
 unfold Rg.push
 split
 ·refine ⟨?_, .inr ?_⟩
  ·show r.n + 1 ≤ (List.set _ _ _).length
   rw [List.length_set, List.length_append, List.length_replicate]; omega
  ·show 0 < (List.set _ _ _).length
   rw [List.length_set, List.length_append, List.length_replicate]; omega
 ·refine ⟨?_, ?_⟩
  ·show r.n + 1 ≤ (List.set _ _ _).length
   rw [List.length_set]; omega
  ·refine hp.imp (fun h => ?_) fun h => ?_
   ·show List.set _ _ _ = []
    rw [h]; rfl
   ·show r.p < (List.set _ _ _).length
    rw [List.length_set]; exact h
theorem Rg.pop_list {r : Rg} (h : r.ok) (h0 : r.n ≠ 0) : r.list = r.l.getD r.p zE :: r.pop.list := by
 obtain ⟨hn, hp⟩ := h
 have hne : r.l ≠ [] := by intro h; rw [h] at hn; simp at hn; omega
 have hp := hp.resolve_left hne
 obtain ⟨m, hm⟩ : ∃ m, r.n = m + 1 := ⟨r.n - 1, by omega⟩
 have hm1 : (r.pop).n = m := by show r.n - 1 = m; omega
 unfold Rg.list
 rw [hm1, hm, List.range_succ_eq_map, List.map_cons, List.map_map]
 congr 1
 ·show List.getD _ ((r.p + 0) % _) _ = _
  rw [Nat.add_zero, Nat.mod_eq_of_lt hp]
 ·refine list_ext _ fun k hk => ?_
  show List.getD _ ((r.p + (k + 1)) % _) _ = List.getD _ ((((r.p + 1) % r.l.length) + k) % r.l.length) _
  rw [Nat.mod_add_mod, Nat.add_assoc, Nat.add_comm 1 k]; rfl
theorem Rg.pop_ok {r : Rg} (h : r.ok) (h0 : r.n ≠ 0) : r.pop.ok := by
 obtain ⟨hn, hp⟩ := h
 have hne : r.l ≠ [] := by intro h; rw [h] at hn; simp at hn; omega
 exact ⟨by show r.n - 1 ≤ r.l.length; omega, .inr (Rg.plc_lt hne 1)⟩
def lastE (l : List Entry) (a : Int) : Option Int := (l.reverse.find? fun e => decide (e.addr = a)).map (·.val)
theorem lastE_nil (a : Int) : lastE [] a = none := rfl
theorem lastE_snoc (l : List Entry) (e : Entry) (a : Int) : lastE (l ++ [e]) a = if e.addr = a then some e.val else lastE l a := by
 unfold lastE
 rw [List.reverse_append, List.reverse_singleton, List.singleton_append, List.find?_cons]
 by_cases h : e.addr = a <;> simp [h]
theorem Rg.list_take {r : Rg} {k : Nat} (h : k < r.n) : r.list.take (k + 1) = r.list.take k ++ [r.get k] := by
 rw [List.take_add_one, Rg.list_get h]; rfl
end Go.Proofs.Ytlajkgaclihhiaa
namespace Go.Proofs.Ytlajkgaclihhiaa
set_option maxRecDepth 20000
open Go Go.Proofs.Ytlajkgaclihhiaa.V Go.Proofs
def cRg (r : Rg) : List TV := [.lst 2 (r.l.map cEntry), tI r.p, tI r.n]
def rgO (r : Rg) (k : Nat) : List (Nat × TObj) := [(k, .cells [.s (k + 1) 2 0 r.l.length true, tI r.p, tI r.n] ty_ring_Ring), (k + 1, .rows 2 (r.l.map cEntry) ty_api_Entry)]
section
attribute [local irreducible] TwS TwR thenT inBlockT retT
variable {G : World → Prop}
theorem rlen_spec (r : Rg) : Pure prog G n_ring_Ring_Len [.fp (cRg r) 0] (tI r.n) := by
 refine Pure.of mixedOk (fn := f_ring_Ring_Len) (by kernel_rfl) (by kernel_rfl) ok_ring_Ring_Len rfl fun C hP hG hp => goF ?_; simp only [fs_ring_Ring_Len, targEnv, Nat.zero_add, Nat.reduceAdd]
 repeat' (first | refine goR rfl ?_ | refine goS rfl ?_ | refine tret1 rfl ?_ | refine tretN rfl ?_ | refine tr_guard_y rfl rfl ?_ | refine tr_guard_n rfl rfl ?_ | refine ts_cond_t rfl rfl ?_ | refine ts_cond_f rfl rfl ?_ | fail)
 exact .fr rfl
theorem rplace_spec (r : Rg) (k : Nat) (h0 : r.p < r.l.length) (h : k ≤ r.l.length) (hb : r.l.length ≤ 1000000000) : Pure prog G n_ring_Ring_place [.fp (cRg r) 0, tI k] (tI (r.plc k)) := by
 obtain ⟨l, p, n⟩ := r
 cases l with
 | nil => exact absurd h0 (Nat.not_lt_zero _)
 | cons e l =>
  simp only [List.length_cons] at h0 h hb
  have e1 : ((Rg.plc ⟨e :: l, p, n⟩ k : Nat) : Int) = (IntKind.i64.wrap ((p : Int) + (k : Int))).tmod (((l.map cEntry).length + 1 : Nat) : Int) := by
   rw [w64 (by omega), List.length_map, Rg.plc, List.length_cons, ← Int.natCast_add, ← Int.ofNat_tmod]
  rw [e1]
  refine Pure.of mixedOk (fn := f_ring_Ring_place) (by kernel_rfl) (by kernel_rfl) ok_ring_Ring_place rfl fun C hP hG hp => goF ?_; simp only [fs_ring_Ring_place, targEnv, Nat.zero_add, Nat.reduceAdd]
  repeat' (first | refine goR rfl ?_ | refine goS rfl ?_ | refine tret1 rfl ?_ | refine tretN rfl ?_ | refine tr_guard_y rfl rfl ?_ | refine tr_guard_n rfl rfl ?_ | refine ts_cond_t rfl rfl ?_ | refine ts_cond_f rfl rfl ?_ | fail)
  exact .fr rfl
theorem rlist_own (r : Rg) (hr : r.ok) (hb : r.l.length ≤ 1000000000) : TC prog G n_ring_Ring_List [.fp (cRg r) 0] ⟨[], 0⟩ [] (fun v σ' => v = .s 0 2 0 r.n true ∧ σ' = ⟨[(0, .rows 2 (r.list.map cEntry) ty_api_Entry)], 1⟩) := by
 have hll := r.list_len
 obtain ⟨hn, hp0⟩ := hr
 have c1 := fun G => rlen_spec (G := G) r
 refine TC.of mixedOk (fn := f_ring_Ring_List) (by kernel_rfl) (by kernel_rfl) ok_ring_Ring_List rfl fun C hP hG hp => goF ?_; simp only [fs_ring_Ring_List, targEnv, Nat.zero_add, Nat.reduceAdd]
 repeat' (first | refine goR rfl ?_ | refine goS rfl ?_ | refine tret1 rfl ?_ | refine tretN rfl ?_ | refine tr_guard_y rfl rfl ?_ | refine tr_guard_n rfl rfl ?_ | refine ts_cond_t rfl rfl ?_ | refine ts_cond_f rfl rfl ?_ | fail)
 refine loopS (fun m env σ => ∃ k : Nat, k ≤ r.n ∧ m = r.n - k ∧ env = [(0, .fp (cRg r) 0), (3, .s 0 2 0 k true), (4, tI k)] ∧ σ = ⟨[(0, .rows 2 ((r.list.take k).map cEntry) ty_api_Entry)], 1⟩) r.n ((w_virt (d := 3) 2 ty_api_Entry rfl).trans ?_) ⟨0, by omega, by omega, rfl, rfl⟩ ?_
 ·(refine w_ren [(0, 0)] rfl (by rw [hp]; decide) rfl ?_ ?_ <;> repeat' (first | exact .nil | exact .f _ rfl | exact .s _ _ _ _ _ _ rfl | exact .p _ _ _ rfl | exact .rows _ _ _ | exact .iter _ _ | exact RenL.nil _ | refine RenL.cons ?_ ?_ | refine .cells _ _ _ ?_ | refine .cons _ _ _ _ rfl ?_ ?_ | refine .cons _ _ _ _ _ rfl rfl ?_ ?_ | refine .rowsE ?_ | refine .sE rfl ?_ | exact .m _ _ rfl | refine .fE rfl ?_ | exact rnT_ok rfl | exact RenO.mapB _ | exact RenO.mapB [] | fail))
 rintro m env σ ⟨k, hk, rfl, rfl, rfl⟩
 have hkl : (r.list.take k).length = k := by rw [List.length_take]; omega
 by_cases hlt : k < r.n
 ·have hne : r.l ≠ [] := by intro h; rw [h] at hn; simp at hn; omega
  have c2 := fun G => rplace_spec (G := G) r k (hp0.resolve_left hne) (by omega) hb
  have hx : r.l[r.plc k]? = some (r.get k) := by
   rw [Rg.get, List.getD_eq_getElem?_getD, List.getElem?_eq_getElem (Rg.plc_lt hne k)]; rfl
  repeat' (first | refine goR rfl ?_ | refine goS rfl ?_ | refine tret1 rfl ?_ | refine tretN rfl ?_ | refine tr_guard_y rfl rfl ?_ | refine tr_guard_n rfl rfl ?_ | refine ts_cond_t rfl rfl ?_ | refine ts_cond_f rfl rfl ?_ | refine tr_callA rfl (by rw [hP]; exact c1 _) rfl ?_ | refine tr_callA rfl (by rw [hP]; exact c2 _) rfl ?_ | refine ts_cond_t rfl (decide_eq_true (by omega)) ?_ | refine tr_light (tl_ixm rfl rfl rfl hx) ?_ | refine tr_append rfl rfl (by rw [List.length_map, hkl]) (.inr (.inr ⟨_, _, _, _, rfl, rfl, rfl⟩)) (by simp only [List.length_cons, List.length_nil]; omega) rfl ?_ | fail)
  refine again (m' := r.n - (k + 1)) (by omega) ?_ ⟨k + 1, by omega, rfl, rfl, rfl⟩
  (refine w_ren [(0, 2)] rfl (by rw [hp]; decide) rfl ?_ ?_ <;> repeat' (first | exact .nil | exact .f _ rfl | exact .s _ _ _ _ _ _ rfl | exact .p _ _ _ rfl | exact .rows _ _ _ | exact .iter _ _ | exact RenL.nil _ | refine RenL.cons ?_ ?_ | refine .cells _ _ _ ?_ | refine .cons _ _ _ _ rfl ?_ ?_ | refine .cons _ _ _ _ _ rfl rfl ?_ ?_ | refine .rowsE ?_ | refine .sE rfl ?_ | exact .m _ _ rfl | refine .fE rfl ?_ | exact rnT_ok rfl | exact RenO.mapB _ | exact RenO.mapB [] | fail))
  ·rw [w64 (by omega)]; rfl
  ·rw [Rg.list_take hlt, List.map_append]; rfl
 ·repeat' (first | refine goR rfl ?_ | refine goS rfl ?_ | refine tret1 rfl ?_ | refine tretN rfl ?_ | refine tr_guard_y rfl rfl ?_ | refine tr_guard_n rfl rfl ?_ | refine ts_cond_t rfl rfl ?_ | refine ts_cond_f rfl rfl ?_ | refine tr_callA rfl (by rw [hP]; exact c1 _) rfl ?_ | refine ts_cond_f rfl (decide_eq_false (by omega)) ?_ | fail)
  refine twret rfl ?_ ⟨rfl, rfl⟩
  (refine w_ren [(0, 0)] rfl (by rw [hp]; decide) rfl ?_ ?_ <;> repeat' (first | exact .nil | exact .f _ rfl | exact .s _ _ _ _ _ _ rfl | exact .p _ _ _ rfl | exact .rows _ _ _ | exact .iter _ _ | exact RenL.nil _ | refine RenL.cons ?_ ?_ | refine .cells _ _ _ ?_ | refine .cons _ _ _ _ rfl ?_ ?_ | refine .cons _ _ _ _ _ rfl rfl ?_ ?_ | refine .rowsE ?_ | refine .sE rfl ?_ | exact .m _ _ rfl | refine .fE rfl ?_ | exact rnT_ok rfl | exact RenO.mapB _ | exact RenO.mapB [] | fail))
  all_goals first | omega | (rw [List.take_of_length_le (by omega)]; done) | skip
theorem rlast_spec (r : Rg) (hr : r.ok) (hb : r.l.length ≤ 1000000000) (a : Int) : Pure prog G n_ring_Ring_Last [.fp (cRg r) 0, tI a] (.tup [tI ((lastE r.list a).getD 0), tB (lastE r.list a).isSome]) := by
 have hll := r.list_len
 obtain ⟨hn, hp0⟩ := hr
 have c1 := fun G => rlen_spec (G := G) r
 refine Pure.of mixedOk (fn := f_ring_Ring_Last) (by kernel_rfl) (by kernel_rfl) ok_ring_Ring_Last rfl fun C hP hG hp => goF ?_; simp only [fs_ring_Ring_Last, targEnv, Nat.zero_add, Nat.reduceAdd]
 repeat' (first | refine goR rfl ?_ | refine goS rfl ?_ | refine tret1 rfl ?_ | refine tretN rfl ?_ | refine tr_guard_y rfl rfl ?_ | refine tr_guard_n rfl rfl ?_ | refine ts_cond_t rfl rfl ?_ | refine ts_cond_f rfl rfl ?_ | refine tr_callA rfl (by rw [hP]; exact c1 _) rfl ?_ | fail)
 refine loopS (fun m env σ => m ≤ r.n ∧ env = [(0, .fp (cRg r) 0), (1, tI a), (6, tI ((m : Int) - 1))] ∧ σ = ⟨[], 0⟩ ∧ lastE r.list a = lastE (r.list.take m) a) r.n ?_ ⟨by omega, rfl, rfl, by rw [List.take_of_length_le (by omega)]⟩ ?_
 ·(refine w_ren [] rfl (by rw [hp]; decide) rfl ?_ ?_ <;> repeat' (first | exact .nil | exact .f _ rfl | exact .s _ _ _ _ _ _ rfl | exact .p _ _ _ rfl | exact .rows _ _ _ | exact .iter _ _ | exact RenL.nil _ | refine RenL.cons ?_ ?_ | refine .cells _ _ _ ?_ | refine .cons _ _ _ _ rfl ?_ ?_ | refine .cons _ _ _ _ _ rfl rfl ?_ ?_ | refine .rowsE ?_ | refine .sE rfl ?_ | exact .m _ _ rfl | refine .fE rfl ?_ | exact rnT_ok rfl | exact RenO.mapB _ | exact RenO.mapB [] | fail))
  rw [w64 (by omega)]
 rintro m env σ ⟨hm, rfl, rfl, hla⟩
 cases m with
 | zero =>
  rw [hla, show r.list.take 0 = [] from rfl, lastE_nil]
  repeat' (first | refine goR rfl ?_ | refine goS rfl ?_ | refine tret1 rfl ?_ | refine tretN rfl ?_ | refine tr_guard_y rfl rfl ?_ | refine tr_guard_n rfl rfl ?_ | refine ts_cond_t rfl rfl ?_ | refine ts_cond_f rfl rfl ?_ | refine ts_cond_f rfl (decide_eq_false (by omega)) ?_ | fail)
  exact .fr rfl
 | succ k =>
  have e1 : ((k + 1 : Nat) : Int) - 1 = (k : Int) := by omega
  rw [e1]
  have hne : r.l ≠ [] := by intro h; rw [h] at hn; simp at hn; omega
  have c2 := fun G => rplace_spec (G := G) r k (hp0.resolve_left hne) (by omega) hb
  have hx : r.l[r.plc k]? = some (r.get k) := by
   rw [Rg.get, List.getD_eq_getElem?_getD, List.getElem?_eq_getElem (Rg.plc_lt hne k)]; rfl
  rw [Rg.list_take (by omega), lastE_snoc] at hla
  by_cases ha : (r.get k).addr = a
  ·rw [if_pos ha] at hla
   rw [hla]
   repeat' (first | refine goR rfl ?_ | refine goS rfl ?_ | refine tret1 rfl ?_ | refine tretN rfl ?_ | refine tr_guard_y rfl rfl ?_ | refine tr_guard_n rfl rfl ?_ | refine ts_cond_t rfl rfl ?_ | refine ts_cond_f rfl rfl ?_ | refine tr_callA rfl (by rw [hP]; exact c2 _) rfl ?_ | refine ts_cond_t rfl (decide_eq_true (by omega)) ?_ | refine tr_light (tl_ixm rfl rfl rfl hx) ?_ | fail)
   exact .fr rfl
  ·rw [if_neg ha] at hla
   repeat' (first | refine goR rfl ?_ | refine goS rfl ?_ | refine tret1 rfl ?_ | refine tretN rfl ?_ | refine tr_guard_y rfl rfl ?_ | refine tr_guard_n rfl rfl ?_ | refine ts_cond_t rfl rfl ?_ | refine ts_cond_f rfl rfl ?_ | refine tr_callA rfl (by rw [hP]; exact c2 _) rfl ?_ | refine ts_cond_t rfl (decide_eq_true (by omega)) ?_ | refine tr_light (tl_ixm rfl rfl rfl hx) ?_ | refine ts_cond_f rfl (decide_eq_false (by omega)) ?_ | fail)
   refine again (m' := k) (Nat.lt_succ_self _) ?_ ⟨by omega, rfl, rfl, hla⟩
   (refine w_ren [] rfl (by rw [hp]; decide) rfl ?_ ?_ <;> repeat' (first | exact .nil | exact .f _ rfl | exact .s _ _ _ _ _ _ rfl | exact .p _ _ _ rfl | exact .rows _ _ _ | exact .iter _ _ | exact RenL.nil _ | refine RenL.cons ?_ ?_ | refine .cells _ _ _ ?_ | refine .cons _ _ _ _ rfl ?_ ?_ | refine .cons _ _ _ _ _ rfl rfl ?_ ?_ | refine .rowsE ?_ | refine .sE rfl ?_ | exact .m _ _ rfl | refine .fE rfl ?_ | exact rnT_ok rfl | exact RenO.mapB _ | exact RenO.mapB [] | fail))
   rw [w64 (by omega)]
theorem rnew_own : TC prog G n_ring_New [] ⟨[], 0⟩ [] (fun v σ' => v = .p 0 0 ∧ σ' = ⟨rgO Rg.new 0, 2⟩) := by
 refine TC.of mixedOk (fn := f_ring_New) (by kernel_rfl) (by kernel_rfl) ok_ring_New rfl fun C hP hG hp => goF ?_; simp only [fs_ring_New, targEnv, Nat.zero_add, Nat.reduceAdd]
 repeat' (first | refine goR rfl ?_ | refine goS rfl ?_ | refine tret1 rfl ?_ | refine tretN rfl ?_ | refine tr_guard_y rfl rfl ?_ | refine tr_guard_n rfl rfl ?_ | refine ts_cond_t rfl rfl ?_ | refine ts_cond_f rfl rfl ?_ | fail)
 refine twret rfl ((w_virtC (j := 0) (i := 0) 2 ty_api_Entry rfl rfl).trans (w_canon 2 [] [0] hp rfl rfl rfl rfl)) ⟨rfl, rfl⟩
theorem rcopy_own (r : Rg) (hb : r.l.length ≤ 1000000000) : TC prog G n_ring_Ring_Copy [.fp (cRg r) 0] ⟨[], 0⟩ [] (fun v σ' => v = .p 0 0 ∧ σ' = ⟨rgO r 0, 2⟩) := by
 have e2 : (r.l.map cEntry).length = r.l.length := List.length_map ..
 refine TC.of mixedOk (fn := f_ring_Ring_Copy) (by kernel_rfl) (by kernel_rfl) ok_ring_Ring_Copy rfl fun C hP hG hp => goF ?_; simp only [fs_ring_Ring_Copy, targEnv, Nat.zero_add, Nat.reduceAdd]
 repeat' (first | refine goR rfl ?_ | refine goS rfl ?_ | refine tret1 rfl ?_ | refine tretN rfl ?_ | refine tr_guard_y rfl rfl ?_ | refine tr_guard_n rfl rfl ?_ | refine ts_cond_t rfl rfl ?_ | refine ts_cond_f rfl rfl ?_ | refine tr_append rfl rfl rfl (.inl rfl) (by first | omega | (simp only [List.length_nil]; omega)) rfl ?_ | fail)
 refine tretX 2 [] rfl hp rfl rfl rfl rfl ⟨rfl, ?_⟩
 simp [rgO]
theorem rpop_own (r : Rg) (hr : r.ok) (hb : r.l.length ≤ 1000000000) (h0 : r.n ≠ 0) : TC prog G n_ring_Ring_Pop [.p 0 0] ⟨rgO r 0, 2⟩ [0] (fun v σ' => v = .tup [.agg (cEntry (r.l.getD r.p zE)), tB true] ∧ σ' = ⟨rgO r.pop 0, 2⟩) := by
 have c1 := fun G => rlen_spec (G := G) r
 obtain ⟨hn, hp'⟩ := hr
 have hne : r.l ≠ [] := by intro h; rw [h] at hn; simp at hn; omega
 have hp2 := hp'.resolve_left hne
 have c2 := fun G => rplace_spec (G := G) r 1 hp2 (by omega) hb
 have hx : (r.l.map cEntry)[r.p]? = some (cEntry (r.l.getD r.p zE)) := by
  rw [List.getElem?_map, List.getD_eq_getElem?_getD, List.getElem?_eq_getElem hp2]; rfl
 refine TC.of mixedOk (fn := f_ring_Ring_Pop) (by kernel_rfl) (by kernel_rfl) ok_ring_Ring_Pop rfl fun C hP hG hp => goF ?_; simp only [fs_ring_Ring_Pop, targEnv, Nat.zero_add, Nat.reduceAdd]
 repeat' (first | refine goR rfl ?_ | refine goS rfl ?_ | refine tret1 rfl ?_ | refine tretN rfl ?_ | refine tr_guard_y rfl rfl ?_ | refine tr_guard_n rfl rfl ?_ | refine ts_cond_t rfl rfl ?_ | refine ts_cond_f rfl rfl ?_ | refine tr_callV hP hG (c1 _) rfl (by (repeat' first | exact FzL.nil | refine FzL.cons ?_ ?_ | exact Fz.fr rfl | exact Fz.nil _ | exact Fz.s _ _ _ _ _ _ rfl (List.length_map ..).symm | exact Fz.s _ _ _ _ _ _ rfl rfl | refine Fz.pL rfl ?_ | refine Fz.aggL ?_); first | done | fail) rfl ?_ | refine tr_callV hP hG (c2 _) rfl (by (repeat' first | exact FzL.nil | refine FzL.cons ?_ ?_ | exact Fz.fr rfl | exact Fz.nil _ | exact Fz.s _ _ _ _ _ _ rfl (List.length_map ..).symm | exact Fz.s _ _ _ _ _ _ rfl rfl | refine Fz.pL rfl ?_ | refine Fz.aggL ?_); first | done | fail) rfl ?_ | refine ts_cond_f rfl (decide_eq_false (by omega)) ?_ | refine tr_light (tl_ixo (m := r.p) rfl rfl rfl (by omega)) ?_ | refine tr_light (tl_ldE rfl rfl hx rfl) ?_ | fail)
 refine tretX 2 [0] rfl hp rfl rfl rfl rfl ⟨rfl, ?_⟩
 rw [w64 (by omega), show ((r.n : Int) - 1) = ((r.n - 1 : Nat) : Int) by omega]
 rfl
theorem rpush_own (r : Rg) (hr : r.ok) (hb : r.l.length ≤ 100000000) (e : Entry) : TC prog G n_ring_Ring_Push [.p 0 0, .agg (cEntry e)] ⟨rgO r 0, 2⟩ [0] (fun v σ' => v = .tup [] ∧ σ' = ⟨rgO (r.push e) 0, 2⟩) := by
 have c1 := rlist_own (G := G) r hr (by omega)
 have hll := r.list_len
 obtain ⟨hn, hp'⟩ := hr
 have e1 : (r.list.map cEntry).length = r.n := by rw [List.length_map, hll]
 have key : ∀ (q : Rg), q.p < q.l.length → q.n < q.l.length → q.l.length ≤ 1000000000 → (∀ G, Pure prog G n_ring_Ring_place [.fp (cRg q) 0, tI q.n] (tI (q.plc q.n))) ∧ (q.l.map cEntry)[q.plc q.n]? = some (cEntry (q.get q.n)) ∧ q.plc q.n < (q.l.map cEntry).length := by
  intro q h1 h2 h3
  have hne : q.l ≠ [] := by intro h; rw [h] at h2; simp at h2
  refine ⟨fun G => rplace_spec q q.n h1 (by omega) h3, ?_, by rw [List.length_map]; exact Rg.plc_lt hne _⟩
  rw [List.getElem?_map, Rg.get, List.getD_eq_getElem?_getD, List.getElem?_eq_getElem (Rg.plc_lt hne q.n)]; rfl
 by_cases hf : r.n = r.l.length
 ·have hW : IntKind.i64.wrap (IntKind.i64.wrap (2 * (r.n : Int)) + 2) = ((2 * r.n + 2 : Nat) : Int) := by rw [w64 (x := 2 * (r.n : Int)) (by omega), w64 (by omega)]; omega
  obtain ⟨q, hq⟩ : ∃ q : Rg, q = ⟨r.list ++ List.replicate (r.n + 2) zE, 0, r.n⟩ := ⟨_, rfl⟩
  have q1 : q.l.length = 2 * r.n + 2 := by rw [hq]; show (_ ++ _ : List Entry).length = _; rw [List.length_append, List.length_replicate, hll]; omega
  have qp : q.p = 0 := by rw [hq]
  have qn : q.n = r.n := by rw [hq]
  obtain ⟨k1, k2, k3⟩ := key q (by omega) (by omega) (by omega)
  have hpl : q.plc q.n = r.n := by
   unfold Rg.plc
   rw [q1, qp, qn, Nat.zero_add]
   exact Nat.mod_eq_of_lt (by omega)
  rw [hpl] at k2 k3
  have k1 : ∀ G, Pure prog G n_ring_Ring_place [.fp (cRg q) 0, tI r.n] (tI r.n) := fun G => by
   have := k1 G
   rwa [hpl, qn] at this
  rw [show cRg q = [.lst 2 (q.l.map cEntry), tI 0, tI r.n] by unfold cRg; rw [qp, qn]; rfl] at k1
  have hX : (r.list.map cEntry) ++ (List.replicate (2 * r.n + 2) [tI 0, tI 0]).drop (r.list.map cEntry).length = q.l.map cEntry := by
   rw [hq, e1, List.drop_replicate, List.map_append, List.map_replicate, show 2 * r.n + 2 - r.n = r.n + 2 by omega]; rfl
  have hpush : r.push e = ⟨q.l.set r.n e, 0, r.n + 1⟩ := by unfold Rg.push; rw [if_pos hf, hq]
  rw [hpush]
  refine TC.of mixedOk (fn := f_ring_Ring_Push) (by kernel_rfl) (by kernel_rfl) ok_ring_Ring_Push rfl fun C hP hG hp => goF ?_; simp only [fs_ring_Ring_Push, targEnv, Nat.zero_add, Nat.reduceAdd]
  repeat' (first | refine goR rfl ?_ | refine goS rfl ?_ | refine tret1 rfl ?_ | refine tretN rfl ?_ | refine tr_guard_y rfl rfl ?_ | refine tr_guard_n rfl rfl ?_ | refine ts_cond_t rfl rfl ?_ | refine ts_cond_f rfl rfl ?_ | refine ts_cond_t rfl (decide_eq_true (by omega)) ?_ | (rw [hW]; refine tr_make rfl rfl rfl rfl (by omega) ?_) | refine tr_mcallV hP hG (c1) rfl (by (repeat' first | exact FzL.nil | refine FzL.cons ?_ ?_ | exact Fz.fr rfl | exact Fz.nil _ | exact Fz.s _ _ _ _ _ _ rfl (List.length_map ..).symm | exact Fz.s _ _ _ _ _ _ rfl rfl | refine Fz.pL rfl ?_ | refine Fz.aggL ?_); first | done | fail) rfl rfl rfl rfl rfl rfl (by (repeat' first | rfl | exact selfS_nil | refine selfS_cons ?_ ?_ | exact self_rows (fun _ => rfl) _ _ _); first | done | fail) rfl ?_ | fail)
  refine tr_copy rfl rfl (by rw [List.length_replicate]) (.inr (.inr ⟨_, _, _, _, rfl, rfl, e1.symm⟩)) (by rw [e1, Int.toNat_natCast]; omega) rfl ?_
  refine tr_weak (w_say (k := 3) (.rows 2 (q.l.map cEntry) ty_api_Entry) rfl (by rw [Int.toNat_natCast]; exact congrArg (fun x => TObj.rows 2 x ty_api_Entry) hX)) ?_
  rw [Int.toNat_natCast, ← q1]
  repeat' (first | refine goR rfl ?_ | refine goS rfl ?_ | refine tret1 rfl ?_ | refine tretN rfl ?_ | refine tr_guard_y rfl rfl ?_ | refine tr_guard_n rfl rfl ?_ | refine ts_cond_t rfl rfl ?_ | refine ts_cond_f rfl rfl ?_ | refine tr_callV hP hG (k1 _) rfl (by (repeat' first | exact FzL.nil | refine FzL.cons ?_ ?_ | exact Fz.fr rfl | exact Fz.nil _ | exact Fz.s _ _ _ _ _ _ rfl (List.length_map ..).symm | exact Fz.s _ _ _ _ _ _ rfl rfl | refine Fz.pL rfl ?_ | refine Fz.aggL ?_); first | done | fail) rfl ?_ | refine tr_light (tl_ixo (m := r.n) rfl rfl rfl (by omega)) ?_ | refine tr_storeE rfl rfl k2 rfl rfl rfl rfl rfl rfl ?_ | fail)
  refine tretXN 2 [0] rfl hp rfl rfl rfl rfl ⟨rfl, ?_⟩
  rw [w64 (by omega)]
  simp [rgO, List.map_set]
  exact ⟨rfl, rfl⟩
 ·have hne : r.l ≠ [] := by intro h; rw [h] at hn hf; simp at hn hf; omega
  obtain ⟨k1, k2, k3⟩ := key r (hp'.resolve_left hne) (by omega) (by omega)
  have hpush : r.push e = ⟨r.l.set (r.plc r.n) e, r.p, r.n + 1⟩ := by unfold Rg.push; rw [if_neg hf]
  rw [hpush]
  rw [List.length_map] at k3
  refine TC.of mixedOk (fn := f_ring_Ring_Push) (by kernel_rfl) (by kernel_rfl) ok_ring_Ring_Push rfl fun C hP hG hp => goF ?_; simp only [fs_ring_Ring_Push, targEnv, Nat.zero_add, Nat.reduceAdd]
  repeat' (first | refine goR rfl ?_ | refine goS rfl ?_ | refine tret1 rfl ?_ | refine tretN rfl ?_ | refine tr_guard_y rfl rfl ?_ | refine tr_guard_n rfl rfl ?_ | refine ts_cond_t rfl rfl ?_ | refine ts_cond_f rfl rfl ?_ | refine ts_cond_f rfl (decide_eq_false (by omega)) ?_ | refine tr_callV hP hG (k1 _) rfl (by (repeat' first | exact FzL.nil | refine FzL.cons ?_ ?_ | exact Fz.fr rfl | exact Fz.nil _ | exact Fz.s _ _ _ _ _ _ rfl (List.length_map ..).symm | exact Fz.s _ _ _ _ _ _ rfl rfl | refine Fz.pL rfl ?_ | refine Fz.aggL ?_); first | done | fail) rfl ?_ | refine tr_light (tl_ixo (m := r.plc r.n) rfl rfl rfl (by omega)) ?_ | refine tr_storeE rfl rfl k2 rfl rfl rfl rfl rfl rfl ?_ | fail)
  refine tretXN 2 [0] rfl hp rfl rfl rfl rfl ⟨rfl, ?_⟩
  rw [w64 (by omega)]
  simp [rgO, List.map_set]
  rfl
end
end Go.Proofs.Ytlajkgaclihhiaa
namespace Go.Proofs.Ytlajkgaclihhiaa
set_option maxRecDepth 20000
open Go Go.Proofs.Ytlajkgaclihhiaa.V Go.Proofs
def pushL (l : List Entry) : Rg := l.foldl Rg.push Rg.new
theorem pushL_snoc (a : List Entry) (e : Entry) : pushL (a ++ [e]) = (pushL a).push e := by unfold pushL; rw [List.foldl_append]; rfl
theorem Rg.push_len (r : Rg) (e : Entry) : (r.push e).l.length = if r.n = r.l.length then 2 * r.n + 2 else r.l.length := by
 have hl := r.list_len
 unfold Rg.push
 split
 ·show (List.set _ _ _).length = _
  rw [List.length_set, List.length_append, List.length_replicate]; omega
 ·show (List.set _ _ _).length = _
  rw [List.length_set]
theorem pushL_ok (l : List Entry) : ∀ k, k ≤ l.length → (pushL (l.take k)).ok ∧ (pushL (l.take k)).list = l.take k ∧ (pushL (l.take k)).l.length ≤ 2 * k
 | 0, _ => ⟨Rg.new_ok, rfl, Nat.le_refl _⟩
 | k + 1, h => by
  obtain ⟨h1, h2, h3⟩ := pushL_ok l k (by omega)
  have hn := (pushL (l.take k)).list_len
  rw [h2, List.length_take] at hn
  rw [List.take_add_one, List.getElem?_eq_getElem (by omega), Option.toList_some, pushL_snoc]
  refine ⟨Rg.push_ok h1 _, by rw [Rg.push_list h1, h2], ?_⟩
  rw [Rg.push_len]
  split <;> omega
theorem pushA_ok (a : List Entry) : (pushL a).ok ∧ (pushL a).list = a ∧ (pushL a).l.length ≤ 2 * a.length := by
 have := pushL_ok a a.length (Nat.le_refl _)
 rwa [List.take_length] at this
def popK (r : Rg) : Nat → Rg
 | 0 => r
 | k + 1 => (popK r k).pop
theorem popK_ok {r : Rg} (h : r.ok) : ∀ k, k ≤ r.n → (popK r k).ok ∧ (popK r k).n = r.n - k ∧ (popK r k).l = r.l ∧ (popK r k).list = r.list.drop k
 | 0, _ => ⟨h, rfl, rfl, by rw [List.drop_zero]; rfl⟩
 | k + 1, hk => by
  obtain ⟨h1, h2, h3, h4⟩ := popK_ok h k (by omega)
  have hp := Rg.pop_list h1 (by omega)
  refine ⟨Rg.pop_ok h1 (by omega), ?_, h3, ?_⟩
  ·show (popK r k).n - 1 = _
   omega
  ·show (popK r k).pop.list = _
   rw [h4] at hp
   rw [← List.drop_drop (i := 1) (j := k), hp]
   rfl
section
attribute [local irreducible] TwS TwR thenT inBlockT retT Rg.push Rg.pop
variable {G : World → Prop}
def rA1 : Rg := ⟨[⟨1, 5⟩, ⟨0, 0⟩], 0, 1⟩
def rA2 : Rg := ⟨[⟨1, 5⟩, ⟨1, 7⟩], 0, 2⟩
def rA3 : Rg := ⟨[⟨1, 5⟩, ⟨1, 7⟩], 1, 1⟩
theorem rA_1 : Rg.new.push ⟨1, 5⟩ = rA1 := by kernel_rfl
theorem rA_2 : rA1.push ⟨1, 7⟩ = rA2 := by kernel_rfl
theorem rA_3 : rA2.pop = rA3 := by kernel_rfl
set_option maxHeartbeats 20000000 in
theorem alive_spec : Pure prog G n_law_alive [] (tB true) := by
 have c1 := rnew_own (G := G)
 have c2 := rpush_own (G := G) Rg.new Rg.new_ok (by decide) ⟨1, 5⟩
 rw [rA_1] at c2
 have c3 := rpush_own (G := G) rA1 ⟨by decide, .inr (by decide)⟩ (by decide) ⟨1, 7⟩
 rw [rA_2] at c3
 have c4 := fun G => rlast_spec (G := G) rA2 ⟨by decide, .inr (by decide)⟩ (by decide) 1
 have e4 : (lastE rA2.list 1) = some 7 := by kernel_rfl
 rw [e4] at c4
 have c5 := rpop_own (G := G) rA2 ⟨by decide, .inr (by decide)⟩ (by decide) (by decide)
 rw [rA_3, show rA2.l.getD rA2.p zE = ⟨1, 5⟩ from rfl] at c5
 have c6 := fun G => rlen_spec (G := G) rA3
 refine Pure.of mixedOk (fn := f_law_alive) (by kernel_rfl) (by kernel_rfl) ok_law_alive rfl fun C hP hG hp => goF ?_; simp only [fs_law_alive, targEnv, Nat.zero_add, Nat.reduceAdd]
 repeat' (first | refine goR rfl ?_ | refine goS rfl ?_ | refine tret1 rfl ?_ | refine tretN rfl ?_ | refine tr_guard_y rfl rfl ?_ | refine tr_guard_n rfl rfl ?_ | refine ts_cond_t rfl rfl ?_ | refine ts_cond_f rfl rfl ?_ | refine tr_mcallX hP hG (c1) rfl rfl rfl rfl rfl rfl rfl rfl rfl rfl rfl rfl ?_ | refine tr_mcallX hP hG (c2) rfl rfl rfl rfl rfl rfl rfl rfl rfl rfl rfl rfl ?_ | refine tr_mcallX hP hG (c3) rfl rfl rfl rfl rfl rfl rfl rfl rfl rfl rfl rfl ?_ | refine tr_callV hP hG (c4 _) rfl (by (repeat' first | exact FzL.nil | refine FzL.cons ?_ ?_ | exact Fz.fr rfl | exact Fz.nil _ | exact Fz.s _ _ _ _ _ _ rfl (List.length_map ..).symm | exact Fz.s _ _ _ _ _ _ rfl rfl | refine Fz.pL rfl ?_ | refine Fz.aggL ?_); first | done | fail) rfl ?_ | refine tr_mcallX hP hG (c5) rfl rfl rfl rfl rfl rfl rfl rfl rfl rfl rfl rfl ?_ | refine tr_callV hP hG (c6 _) rfl (by (repeat' first | exact FzL.nil | refine FzL.cons ?_ ?_ | exact Fz.fr rfl | exact Fz.nil _ | exact Fz.s _ _ _ _ _ _ rfl (List.length_map ..).symm | exact Fz.s _ _ _ _ _ _ rfl rfl | refine Fz.pL rfl ?_ | refine Fz.aggL ?_); first | done | fail) rfl ?_ | refine tr_light (tl_eqT (by rw [hP]; exact sh_entry) (by rw [hP]; exact ag_entry) (by rw [hP]; exact eg_entry) rfl rfl rfl rfl rfl) ?_ | fail)
 exact .fr rfl
set_option maxHeartbeats 20000000 in
theorem ringCopies (l : List Entry) (k : Int) : Pure prog G n_law_RingCopies [.lst 2 (l.map cEntry), tI k] (tB true) := by
 have c0 := alive_spec (G := G)
 have hlm : (l.map cEntry).length = l.length := List.length_map ..
 by_cases hbig : 40 < l.length
 ·refine Pure.of mixedOk (fn := f_law_RingCopies) (by kernel_rfl) (by kernel_rfl) ok_law_RingCopies rfl fun C hP hG hp => goF ?_; simp only [fs_law_RingCopies, targEnv, Nat.zero_add, Nat.reduceAdd]
  repeat' (first | refine goR rfl ?_ | refine goS rfl ?_ | refine tret1 rfl ?_ | refine tretN rfl ?_ | refine tr_guard_y rfl rfl ?_ | refine tr_guard_n rfl rfl ?_ | refine ts_cond_t rfl rfl ?_ | refine ts_cond_f rfl rfl ?_ | refine ts_cond_t rfl (decide_eq_true (by omega)) ?_ | refine tr_callA rfl (by rw [hP, hG]; exact c0) rfl ?_ | fail)
  exact .fr rfl
 have c1 := rnew_own (G := G)
 obtain ⟨hr, hrl, hrb⟩ := pushA_ok l
 have hrn := (pushL l).list_len
 rw [hrl] at hrn
 have c3 := rcopy_own (G := G) (pushL l) (by omega)
 have c4 := rlist_own (G := G) (pushL l) hr (by omega)
 rw [hrl] at c4
 have c5 := fun G => sameEntries_spec (G := G) l l
 simp only [eqE_t] at c5
 have c6 := fun G => pick_spec (G := G) k l.length (by omega)
 have hk0 := Int.emod_nonneg k (show ((l.length + 1 : Nat) : Int) ≠ 0 by omega)
 have hk1 := Int.emod_lt_of_pos k (show (0 : Int) < ((l.length + 1 : Nat) : Int) by omega)
 generalize k % ((l.length + 1 : Nat) : Int) = k2 at c6 hk0 hk1
 obtain ⟨kn, rfl⟩ : ∃ kn : Nat, k2 = kn := ⟨k2.toNat, by omega⟩
 have hP0 := popK_ok hr
 obtain ⟨q1, q2, q3, q4⟩ := hP0 kn (by omega)
 have c8 := rpush_own (G := G) (popK (pushL l) kn) q1 (by rw [q3]; omega) ⟨99, 0⟩
 have hpo := Rg.push_ok q1 ⟨99, 0⟩
 have hpl := Rg.push_list q1 ⟨99, 0⟩
 have hpb := Rg.push_len (popK (pushL l) kn) ⟨99, 0⟩
 rw [q4, hrl] at hpl
 have c9 := rlist_own (G := G) ((popK (pushL l) kn).push ⟨99, 0⟩) hpo (by rw [hpb, q3]; split <;> omega)
 have hpn := ((popK (pushL l) kn).push ⟨99, 0⟩).list_len
 rw [hpl] at c9 hpn
 have c10 := fun G => sameEntries_spec (G := G) (l.drop kn ++ [⟨99, 0⟩]) (l.drop kn ++ [⟨99, 0⟩])
 simp only [eqE_t] at c10
 have hw : IntKind.i64.wrap ((l.length : Int) + 1) = ((l.length + 1 : Nat) : Int) := by rw [w64 (by omega)]; omega
 refine Pure.of mixedOk (fn := f_law_RingCopies) (by kernel_rfl) (by kernel_rfl) ok_law_RingCopies rfl fun C hP hG hp => goF ?_; simp only [fs_law_RingCopies, targEnv, Nat.zero_add, Nat.reduceAdd]
 repeat' (first | refine goR rfl ?_ | refine goS rfl ?_ | refine tret1 rfl ?_ | refine tretN rfl ?_ | refine tr_guard_y rfl rfl ?_ | refine tr_guard_n rfl rfl ?_ | refine ts_cond_t rfl rfl ?_ | refine ts_cond_f rfl rfl ?_ | refine ts_cond_f rfl (decide_eq_false (by omega)) ?_ | refine tr_mcallX hP hG (c1) rfl rfl rfl rfl rfl rfl rfl rfl rfl rfl rfl rfl ?_ | fail)
 refine loopS (fun m env σ => ∃ a b, l = a ++ b ∧ m = b.length ∧ env = [(0, .lst 2 (l.map cEntry)), (1, tI k), (5, .p 0 0), (6, tI a.length)] ∧ σ = ⟨rgO (pushL a) 0, 2⟩) l.length (w_canon 2 [] [0, 1, 5, 6] hp rfl rfl rfl rfl) ⟨[], l, rfl, rfl, rfl, rfl⟩ ?_
 rintro m env σ ⟨a, b, e, rfl, rfl, rfl⟩
 have hla : l.length = a.length + b.length := by rw [e, List.length_append]
 cases b with
 | cons x b =>
  have hx : l[a.length]? = some x := by rw [e]; exact ix
  simp only [List.length_cons] at hla
  obtain ⟨g1, g2, g3⟩ := pushA_ok a
  have c2 := rpush_own (G := G) (pushL a) g1 (by omega) x
  rw [← pushL_snoc] at c2
  have hw1 : IntKind.i64.wrap ((a.length : Int) + 1) = ((a ++ [x]).length : Int) := by rw [w64 (by omega), List.length_append]; rfl
  repeat' (first | refine goR rfl ?_ | refine goS rfl ?_ | refine tret1 rfl ?_ | refine tretN rfl ?_ | refine tr_guard_y rfl rfl ?_ | refine tr_guard_n rfl rfl ?_ | refine ts_cond_t rfl rfl ?_ | refine ts_cond_f rfl rfl ?_ | refine ts_cond_t rfl (decide_eq_true (by rw [List.length_map]; omega)) ?_ | refine tr_light (tl_ixm rfl rfl rfl hx) ?_ | refine tr_mcallX hP hG (c2) rfl rfl rfl rfl rfl rfl rfl rfl rfl rfl rfl rfl ?_ | fail)
  refine again (m' := b.length) (Nat.lt_succ_self _) (w_canon 2 [] [0, 1, 5, 6] hp rfl rfl rfl rfl) ⟨a ++ [x], b, by rw [e]; simp, rfl, by rw [hw1], rfl⟩
 | nil =>
  rw [List.append_nil] at e
  subst e
  clear hla
  rw [List.length_nil]
  repeat' (first | refine goR rfl ?_ | refine goS rfl ?_ | refine tret1 rfl ?_ | refine tretN rfl ?_ | refine tr_guard_y rfl rfl ?_ | refine tr_guard_n rfl rfl ?_ | refine ts_cond_t rfl rfl ?_ | refine ts_cond_f rfl rfl ?_ | refine ts_cond_f rfl (decide_eq_false (by rw [List.length_map]; omega)) ?_ | refine tr_mcallV hP hG (c3) rfl (by (repeat' first | exact FzL.nil | refine FzL.cons ?_ ?_ | exact Fz.fr rfl | exact Fz.nil _ | exact Fz.s _ _ _ _ _ _ rfl (List.length_map ..).symm | exact Fz.s _ _ _ _ _ _ rfl rfl | refine Fz.pL rfl ?_ | refine Fz.aggL ?_); first | done | fail) rfl rfl rfl rfl rfl rfl (by (repeat' first | rfl | exact selfS_nil | refine selfS_cons ?_ ?_ | exact self_rows (fun _ => rfl) _ _ _); first | done | fail) rfl ?_ | refine tr_mcallV hP hG (c4) rfl (by (repeat' first | exact FzL.nil | refine FzL.cons ?_ ?_ | exact Fz.fr rfl | exact Fz.nil _ | exact Fz.s _ _ _ _ _ _ rfl (List.length_map ..).symm | exact Fz.s _ _ _ _ _ _ rfl rfl | refine Fz.pL rfl ?_ | refine Fz.aggL ?_); first | done | fail) rfl rfl rfl rfl rfl rfl (by (repeat' first | rfl | exact selfS_nil | refine selfS_cons ?_ ?_ | exact self_rows (fun _ => rfl) _ _ _); first | done | fail) rfl ?_ | refine tr_frzS 37 rfl rfl (by rw [List.length_map]; omega) ?_ | refine tr_callV hP hG (c5 _) rfl (by (repeat' first | exact FzL.nil | refine FzL.cons ?_ ?_ | exact Fz.fr rfl | exact Fz.nil _ | exact Fz.s _ _ _ _ _ _ rfl (List.length_map ..).symm | exact Fz.s _ _ _ _ _ _ rfl rfl | refine Fz.pL rfl ?_ | refine Fz.aggL ?_); first | done | fail) rfl ?_ | (rw [hlm, hw]; refine tr_callA rfl (by rw [hP]; exact c6 _) rfl ?_) | fail)
  refine loopS (fun m env σ => ∃ i, i ≤ kn ∧ m = kn - i ∧ env = [(0, .lst 2 (l.map cEntry)), (1, tI kn), (5, .p 0 0), (7, .p 2 0), (8, tI i)] ∧ σ = ⟨rgO (pushL l) 0 ++ rgO (popK (pushL l) i) 2, 4⟩) kn (w_canon 4 [] [0, 1, 5, 7, 8] hp rfl rfl rfl rfl) ⟨0, by omega, rfl, rfl, rfl⟩ ?_
  rintro m env σ ⟨i, hi, rfl, rfl, rfl⟩
  by_cases hlt : i < kn
  ·obtain ⟨p1, p2, p3, p4⟩ := hP0 i (by omega)
   have c7 := rpop_own (G := G) (popK (pushL l) i) p1 (by rw [p3]; omega) (by omega)
   have hw1 : IntKind.i64.wrap ((i : Int) + 1) = ((i + 1 : Nat) : Int) := by rw [w64 (by omega)]; omega
   repeat' (first | refine goR rfl ?_ | refine goS rfl ?_ | refine tret1 rfl ?_ | refine tretN rfl ?_ | refine tr_guard_y rfl rfl ?_ | refine tr_guard_n rfl rfl ?_ | refine ts_cond_t rfl rfl ?_ | refine ts_cond_f rfl rfl ?_ | refine ts_cond_t rfl (decide_eq_true (by omega)) ?_ | refine tr_mcallX hP hG (c7) rfl rfl rfl rfl rfl rfl rfl rfl rfl rfl rfl rfl ?_ | fail)
   refine again (m' := kn - (i + 1)) (by omega) (w_canon 4 [] [0, 1, 5, 7, 8] hp rfl rfl rfl rfl) ⟨i + 1, by omega, rfl, by rw [hw1], rfl⟩
  obtain rfl : i = kn := by omega
  clear c1 hP0
  generalize pushL l = r at *
  generalize popK r i = s at *
  generalize s.push ⟨99, 0⟩ = s2 at *
  rw [← hrn] at c4
  rw [← hpn] at c9
  repeat' (first | refine goR rfl ?_ | refine goS rfl ?_ | refine tret1 rfl ?_ | refine tretN rfl ?_ | refine tr_guard_y rfl rfl ?_ | refine tr_guard_n rfl rfl ?_ | refine ts_cond_t rfl rfl ?_ | refine ts_cond_f rfl rfl ?_ | refine ts_cond_f rfl (decide_eq_false (by omega)) ?_ | refine tr_mcallX hP hG (c8) rfl rfl rfl rfl rfl rfl rfl rfl rfl rfl rfl rfl ?_ | refine tr_mcallV hP hG (c4) rfl (by (repeat' first | exact FzL.nil | refine FzL.cons ?_ ?_ | exact Fz.fr rfl | exact Fz.nil _ | exact Fz.s _ _ _ _ _ _ rfl (List.length_map ..).symm | exact Fz.s _ _ _ _ _ _ rfl rfl | refine Fz.pL rfl ?_ | refine Fz.aggL ?_); first | done | fail) rfl rfl rfl rfl rfl rfl (by (repeat' first | rfl | exact selfS_nil | refine selfS_cons ?_ ?_ | exact self_rows (fun _ => rfl) _ _ _); first | done | fail) rfl ?_ | fail)
  refine loopS (fun m env σ => ∃ es : List Entry, ∃ j, es.length = l.length ∧ j ≤ l.length ∧ m = l.length - j ∧ env = [(0, .lst 2 (l.map cEntry)), (1, tI i), (5, .p 0 0), (7, .p 2 0), (9, .s 4 2 0 l.length true), (10, tI j)] ∧ σ = ⟨rgO r 0 ++ rgO s2 2 ++ [(4, .rows 2 (es.map cEntry) ty_api_Entry)], 5⟩) l.length (w_canon 5 [] [0, 1, 5, 7, 9, 10] hp rfl rfl rfl rfl) ⟨l, 0, rfl, by omega, rfl, rfl, rfl⟩ ?_
  rintro m env σ ⟨es, j, he, hj, rfl, rfl, rfl⟩
  by_cases hlt2 : j < l.length
  ·have hx : (es.map cEntry)[j]? = some (cEntry es[j]) := by rw [List.getElem?_map, List.getElem?_eq_getElem (by omega)]; rfl
   have hw1 : IntKind.i64.wrap ((j : Int) + 1) = ((j + 1 : Nat) : Int) := by rw [w64 (by omega)]; omega
   repeat' (first | refine goR rfl ?_ | refine goS rfl ?_ | refine tret1 rfl ?_ | refine tretN rfl ?_ | refine tr_guard_y rfl rfl ?_ | refine tr_guard_n rfl rfl ?_ | refine ts_cond_t rfl rfl ?_ | refine ts_cond_f rfl rfl ?_ | refine ts_cond_t rfl (decide_eq_true (by omega)) ?_ | refine tr_light (tl_ixo (m := j) rfl rfl rfl (by omega)) ?_ | refine tr_storeE rfl rfl hx rfl rfl rfl rfl rfl rfl ?_ | fail)
   refine again (m' := l.length - (j + 1)) (by omega) (w_canon 5 [] [0, 1, 5, 7, 9, 10] hp rfl rfl rfl rfl) ⟨es.set j ⟨-5, -5⟩, j + 1, by rw [List.length_set]; exact he, by omega, rfl, by rw [hw1], ?_⟩
   rw [List.map_set]
   rfl
  have hdl : (l.drop i).length = l.length - i := List.length_drop
  have hdm : ((l.drop i).map cEntry).length = l.length - i := by rw [List.length_map, hdl]
  have hsl : (((l.map cEntry).drop (Option.getD (some (i : Int)) 0).toNat).take ((Option.getD none ((l.map cEntry).length : Int)).toNat - (Option.getD (some (i : Int)) 0).toNat)) = (l.drop i).map cEntry := by
   simp only [Option.getD_some, Option.getD_none, Int.toNat_natCast]
   rw [← List.map_drop]
   exact List.take_of_length_le (by rw [List.length_map, hdl, hlm]; omega)
  repeat' (first | refine goR rfl ?_ | refine goS rfl ?_ | refine tret1 rfl ?_ | refine tretN rfl ?_ | refine tr_guard_y rfl rfl ?_ | refine tr_guard_n rfl rfl ?_ | refine ts_cond_t rfl rfl ?_ | refine ts_cond_f rfl rfl ?_ | refine ts_cond_f rfl (decide_eq_false (by omega)) ?_ | refine tr_light (tl_slc (r := (l.drop i).map cEntry) rfl rfl rfl ⟨by simp only [Option.getD_some]; omega, by simp only [Option.getD_some, Option.getD_none]; omega, by simp only [Option.getD_none]; omega⟩ hsl) ?_ | refine tr_append0 rfl (.inl rfl) (by omega) rfl ?_ | refine tr_append rfl rfl rfl (.inr (.inr ⟨_, _, _, _, rfl, rfl, rfl⟩)) (by simp only [List.length_cons, List.length_nil]; omega) rfl ?_ | fail)
  have hX : (l.drop i).map cEntry ++ [[tI 99, tI 0]] = (l.drop i ++ [Entry.mk 99 0]).map cEntry := by rw [List.map_append]; rfl
  refine tr_weak (w_say (k := 7) (.rows 2 ((l.drop i ++ [Entry.mk 99 0]).map cEntry) ty_api_Entry) rfl (congrArg (fun x => TObj.rows 2 x ty_api_Entry) hX)) ?_
  refine tr_frzS 11 rfl rfl (by simp) ?_
  repeat' (first | refine goR rfl ?_ | refine goS rfl ?_ | refine tret1 rfl ?_ | refine tretN rfl ?_ | refine tr_guard_y rfl rfl ?_ | refine tr_guard_n rfl rfl ?_ | refine ts_cond_t rfl rfl ?_ | refine ts_cond_f rfl rfl ?_ | refine tr_mcallV hP hG (c4) rfl (by (repeat' first | exact FzL.nil | refine FzL.cons ?_ ?_ | exact Fz.fr rfl | exact Fz.nil _ | exact Fz.s _ _ _ _ _ _ rfl (List.length_map ..).symm | exact Fz.s _ _ _ _ _ _ rfl rfl | refine Fz.pL rfl ?_ | refine Fz.aggL ?_); first | done | fail) rfl rfl rfl rfl rfl rfl (by (repeat' first | rfl | exact selfS_nil | refine selfS_cons ?_ ?_ | exact self_rows (fun _ => rfl) _ _ _); first | done | fail) rfl ?_ | refine tr_frzS 77 rfl rfl hlm.symm ?_ | refine tr_callV hP hG (c5 _) rfl (by (repeat' first | exact FzL.nil | refine FzL.cons ?_ ?_ | exact Fz.fr rfl | exact Fz.nil _ | exact Fz.s _ _ _ _ _ _ rfl (List.length_map ..).symm | exact Fz.s _ _ _ _ _ _ rfl rfl | refine Fz.pL rfl ?_ | refine Fz.aggL ?_); first | done | fail) rfl ?_ | refine tr_mcallV hP hG (c9) rfl (by (repeat' first | exact FzL.nil | refine FzL.cons ?_ ?_ | exact Fz.fr rfl | exact Fz.nil _ | exact Fz.s _ _ _ _ _ _ rfl (List.length_map ..).symm | exact Fz.s _ _ _ _ _ _ rfl rfl | refine Fz.pL rfl ?_ | refine Fz.aggL ?_); first | done | fail) rfl rfl rfl rfl rfl rfl (by (repeat' first | rfl | exact selfS_nil | refine selfS_cons ?_ ?_ | exact self_rows (fun _ => rfl) _ _ _); first | done | fail) rfl ?_ | refine tr_frzS 82 rfl rfl (List.length_map ..).symm ?_ | refine tr_callV hP hG (c10 _) rfl (by (repeat' first | exact FzL.nil | refine FzL.cons ?_ ?_ | exact Fz.fr rfl | exact Fz.nil _ | exact Fz.s _ _ _ _ _ _ rfl (List.length_map ..).symm | exact Fz.s _ _ _ _ _ _ rfl rfl | refine Fz.pL rfl ?_ | refine Fz.aggL ?_); first | done | fail) rfl ?_ | refine tr_callA rfl (by rw [hP, hG]; exact c0) rfl ?_ | fail)
  exact .fr rfl
end
end Go.Proofs.Ytlajkgaclihhiaa
