/-
  The abstract semantics 'V', part 23: the rows for walking, under one name.
-/
import Derived.Test.YtnndjlgkhfinjaaV22
set_option linter.all false
set_option linter.unusedSimpArgs false
set_option linter.unusedVariables false
set_option linter.unnecessarySimpa false
namespace Go.Proofs.Ytnndjlgkhfinjaa.V
open Go Go.RowKit
attribute [go_sem ↓] rw_nil rw_light rw_alloc rw_heavy rw_heavyk rw_call rw_guard ev_tmp get_cons ev_cint ev_cbool ev_cstr ev_cnil ev_cslice ev_cmap cells_own
attribute [go_sem] goV_some goH_some goA_some goB_true goB_false ea_nil ea_cons ep_nil ep_cons own_cons put_cons part_one part_agg cq_agg cq_agg' cq_int cq_bool cq_str cq_ptr cq_slice cq_map add_own go_guard gb_t gb_f gb_undef' eo_none eo_some lo_mov lo_pick lo_bin lo_eqp lo_un lo_len lo_lenS lo_nilchk lo_fa lo_iaS lo_iaA lo_ld lo_fld lo_ext lo_bld lo_conv lo_idxS lo_slS lo_slc lo_slA lo_mkI lo_min2 ao_cells ao_box ao_row ao_make ao_mkmap ao_iter ho_store ho_append ho_appendZ ho_copy ho_mapset ho_next bv_add64 bv_sub64 bv_mul64 bv_rem bv_quo bv_eql bv_neq bv_lss bv_leq bv_gtr bv_geq bv_seq bv_sne uv_not uv_neg pv_eq_some pv_eq_nil pv_ne_some pv_ne_nil kv_true kv_false kv_bool lv_len lv_lenS nv_some fv_any addv_own addv_zero beq_self_eq_true iv_any iav_int dv_own fl_one fl_one' fl_agg xv_tup xv_tup' bl_some sv_own xb_some rv_one rv_none mv_int iv_str alloc_next set_next kill_next alloc_eq alloc_at alloc_ne set_eq set_ne kill_ne
attribute [go_sem] putE ptrTo fillL Int.toNat_natCast Option.bind_some Option.map_some Option.bind_none Option.map_none List.length_cons List.length_nil List.drop_zero List.drop_succ_cons List.take_succ_cons List.take_zero List.drop_nil List.take_nil List.append_nil List.nil_append List.cons_append List.getElem?_cons_zero List.getElem?_cons_succ Bool.not_true Bool.not_false Nat.zero_add Nat.add_zero Nat.zero_mul decide_true decide_false eq_self Int.cast_ofNat_Int Bool.and_self Bool.and_true Bool.true_and Bool.and_false Bool.false_and Bool.or_true Bool.true_or Bool.or_false Bool.false_or not_false_eq_true and_true true_and and_self
end Go.Proofs.Ytnndjlgkhfinjaa.V
