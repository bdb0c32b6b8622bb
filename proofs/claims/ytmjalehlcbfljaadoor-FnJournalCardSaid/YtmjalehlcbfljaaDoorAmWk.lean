/- The walking lemmas of the abstract machine under two names. -/
import Derived.Test.YtmjalehlcbfljaaDoorAmZ
set_option linter.unusedSectionVars false
set_option linter.defProp false
set_option linter.unusedVariables false
set_option linter.unusedSimpArgs false
set_option linter.unnecessarySimpa false
namespace Go.AM
open Go
/-- The walk in one name: what a step of the program gives. -/
def wk := (And.intro (And.intro (And.intro (And.intro (And.intro (And.intro (And.intro @run_nil (And.intro @run_skip @run_ret)) (And.intro @run_exit (And.intro @run_blk @run_loop))) (And.intro
  (And.intro @run_lp (And.intro @unw_code @unw_lp)) (And.intro (And.intro @unw_blk @unw_nil) (And.intro @kcut_normal @kcut_ret)))) (And.intro (And.intro (And.intro @kcut_exit (And.intro @run_cond
  @cnd_true)) (And.intro (And.intro @cnd_false @run_region) (And.intro @run_drawn @run_ops_nil))) (And.intro (And.intro @fin_some (And.intro @run_grd @run_one)) (And.intro (And.intro @gsel_tt @gsel_ff)
  (And.intro @gsel_tf @gsel_ft))))) (And.intro (And.intro (And.intro (And.intro @grd_none (And.intro @grd_undef @grd_true)) (And.intro (And.intro @grd_false @grd_dec) (And.intro @grd_ndec @one_call)))
  (And.intro (And.intro @one_move (And.intro @one_assign @one_pick)) (And.intro (And.intro @one_alloc @one_box) (And.intro @one_build @one_buildSlice)))) (And.intro (And.intro (And.intro @one_load
  (And.intro @one_store @one_nilCheck)) (And.intro (And.intro @one_binOp @one_unOp) (And.intro @one_convert @one_makeFunc))) (And.intro (And.intro @one_makeInterface (And.intro @one_makeSlice @l_make))
  (And.intro (And.intro @l_mk @one_slice) (And.intro @one_fieldAddr @one_indexAddr)))))) (And.intro (And.intro (And.intro (And.intro (And.intro @one_index (And.intro @one_extract @one_append))
  (And.intro @one_copy (And.intro @one_clear @one_len))) (And.intro (And.intro @one_min (And.intro @one_max @skip_pl)) (And.intro (And.intro @add_pl @ok_pl) (And.intro @ds_pl @skip_dr)))) (And.intro
  (And.intro (And.intro @add_dr (And.intro @ok_dr @ds_dr)) (And.intro (And.intro @dsj_nil @dsj_r) (And.intro @dsj_w @dsj_w'))) (And.intro (And.intro @idOf_ptr (And.intro @idOf_slice @idOf_nil))
  (And.intro (And.intro @idOf_int @idOf_string) (And.intro @idOf_str @kfun_ret))))) (And.intro (And.intro (And.intro (And.intro @kfun_normal (And.intro @fres_some @aresC)) (And.intro (And.intro @ares0
  @ares1) (And.intro @ares2 @ares3))) (And.intro (And.intro @ares4 (And.intro @closed_int @closed_bool)) (And.intro (And.intro @closed_ptr @closed_slice) (And.intro @closed_func @closed_nil))))
  (And.intro (And.intro (And.intro @closed_agg (And.intro @flat_int @flat_bool)) (And.intro (And.intro @flat_ptr @flat_slice) (And.intro @flat_func @flat_nil))) (And.intro (And.intro @flat_str
  (And.intro @w_add @w_sub)) (And.intro (And.intro @w_mul @w_quo) (And.intro @w_rem @w_and))))))) (And.intro (And.intro (And.intro (And.intro (And.intro (And.intro @w_or (And.intro @w_xor @w_eql))
  (And.intro @w_neq (And.intro @w_lss @w_leq))) (And.intro (And.intro @w_gtr (And.intro @w_geq @w_shl)) (And.intro (And.intro @w_shr @w_neg) (And.intro @w_not @wrap_i64)))) (And.intro (And.intro
  (And.intro @wrap_u64' (And.intro @wrap_u32 @wrap_u8)) (And.intro (And.intro @tmod_pos @tdiv_pos) (And.intro @s_add @s_eql))) (And.intro (And.intro @s_neq (And.intro @s_lss @s_geq)) (And.intro
  (And.intro @s_len @s_index) (And.intro @s_slice_l @s_slice_h))))) (And.intro (And.intro (And.intro (And.intro @s_slice_lh (And.intro @l_len @l_idx)) (And.intro (And.intro @l_load @l_field) (And.intro
  @l_alloc @l_box))) (And.intro (And.intro @l_nil (And.intro @l_store @hset_cs)) (And.intro (And.intro @shr32 @shr30) (And.intro @c_int @str_lit)))) (And.intro (And.intro (And.intro @str_inj (And.intro
  @isVal_agg @cells_agg)) (And.intro (And.intro @bits_i64 @bits_u64) (And.intro @isVal_str @isCell_str))) (And.intro (And.intro @closed_str (And.intro @cells_str @rd_frz)) (And.intro (And.intro @rd_app
  @rd_at) (And.intro @rd_at0 @hset_at)))))) (And.intro (And.intro (And.intro (And.intro (And.intro @hset_at0 (And.intro @rd_c0 @rd_cs)) (And.intro @rd_set_self (And.intro @rd_set_ne @hset_set)))
  (And.intro (And.intro @l_bs (And.intro @bsB_one @bsB_gen)) (And.intro (And.intro @isSeq_nil @isSeq_cons) (And.intro @svals_nil @svals_cons)))) (And.intro (And.intro (And.intro @aFill_nil (And.intro
  @aFill_cons @aFillB_some)) (And.intro (And.intro @l_build @flg_z) (And.intro @flg_n @flg_c))) (And.intro (And.intro @frz_length (And.intro @isVal_int @isVal_bool)) (And.intro (And.intro @isVal_ptr
  @isVal_slice) (And.intro @isVal_func @isVal_nil))))) (And.intro (And.intro (And.intro (And.intro @isCell_int (And.intro @isCell_bool @isCell_ptr)) (And.intro (And.intro @isCell_slice @isCell_func)
  (And.intro @isCell_nil @cells_int))) (And.intro (And.intro @cells_bool (And.intro @cells_ptr @cells_slice)) (And.intro (And.intro @cells_func @icast0) (And.intro @icast1 @beq_true)))) (And.intro
  (And.intro (And.intro @beq_false (And.intro @decide_true @decide_false)) (And.intro (And.intro @decide_eq_true_eq @decide_eq_false_iff_not) (And.intro @true_and @and_true))) (And.intro (And.intro
  @forall_const.{0} (And.intro @false_implies @true_implies)) (And.intro (And.intro @implies_true.{0} @not_true_eq_false) (And.intro @not_false_eq_true @and_self))))))))
/-- ... and the library's own. -/
def wb := (And.intro (And.intro (And.intro (And.intro (And.intro @List.flatMap_cons.{0, 0} (And.intro @List.flatMap_nil.{0, 0} @List.map_cons.{0, 0})) (And.intro @List.map_nil.{0, 0} (And.intro
  @List.flatten_cons.{0} @List.flatten_nil.{0}))) (And.intro (And.intro @Bool.and_self (And.intro @List.set_set.{0} @List.length_set.{0})) (And.intro (And.intro @List.set_cons_succ.{0}
  @List.set_cons_zero.{0}) (And.intro @List.getD_cons_succ.{0} @List.getD_cons_zero.{0})))) (And.intro (And.intro (And.intro @List.cons_append.{0} (And.intro @List.nil_append.{0}
  @List.append_assoc.{0})) (And.intro (And.intro @List.append_nil.{0} @List.replicate_succ.{0}) (And.intro @List.replicate_zero.{0} @List.length_cons.{0}))) (And.intro (And.intro @List.length_nil.{0}
  (And.intro @List.length_append.{0} @Nat.add_zero)) (And.intro (And.intro @Nat.zero_add @Nat.zero_mul) (And.intro @Nat.mul_one @Option.map_some.{0, 0}))))) (And.intro (And.intro (And.intro (And.intro
  @Option.map_none.{0, 0} (And.intro @Option.bind_some.{0, 0} @Option.bind_none.{0, 0})) (And.intro @List.getElem?_cons_succ.{0} (And.intro @List.getElem?_cons_zero.{0} @List.getElem?_toArray.{0})))
  (And.intro (And.intro @Option.getD_some.{0} (And.intro @Option.getD_none.{0} @Bool.not_not)) (And.intro (And.intro @Bool.not_true @Bool.not_false) (And.intro @List.toList_toArray.{0}
  @Option.some.injEq.{0})))) (And.intro (And.intro (And.intro @List.take_zero.{0} (And.intro @List.take_succ_cons.{0} @List.drop_succ_cons.{0})) (And.intro (And.intro @List.drop_zero.{0}
  @List.all_cons.{0}) (And.intro @List.all_nil.{0} @Bool.and_true))) (And.intro (And.intro @Bool.true_and (And.intro @Array.size_singleton.{0} @List.size_toArray.{0})) (And.intro (And.intro @Nat.le_refl
  @Int.zero_add) (And.intro @Int.add_zero @Int.toNat_natCast))))))
end Go.AM

