/-
  Part of a proof: laws over values.
-/
import Derived.Test.YtgcockcngllkaaaDoorC2
set_option linter.unusedVariables false
set_option linter.unusedSimpArgs false
namespace Go.Proofs.Trees
open Go Go.VL
theorem S_FnExactCodeValue (s : List UInt8) (n c : Int) : FSpec Tryd.prog n_laws_FnExactCodeValue [.v (.string (mk s)), .v (.int .i64 n), .v (.int .i64 c)] [] (Det (.v (.bool true))) := by
  refine F_laws_FnExactCodeValue _ _ _ ?_
  simp only [t_laws_FnExactCodeValue, ↓w_testd, ↓w_testn, ↓w_teste, ↓w_testne, ↓w_testb, ↓w_testi, w_test, ↓w_need, ↓w_done, step0, step1, step2, has_int, has_bool, has_str, has_sl, has_slnil, has_ptr, has_nil, true_and, and_true, List.headD_cons, List.tail_cons, toInt_v, toStr_v, toBool_v, comp_tup, elems_sl, elems_nil, deref_ptr, isNil_ptr, isNil_nil, cs_agg, cs_cells, es_vec, List.getD_cons_zero, List.getD_cons_succ, List.drop_zero, List.drop_succ_cons, hasK, decide_eq_true_eq, decide_eq_false_iff_not, bne_iff_ne, bne_eq_false_iff_eq, beq_iff_eq, beq_eq_false_iff_ne, Bool.not_eq_true', Bool.not_eq_false', List.length_cons, List.length_nil, size_mk, toList_mk, extract_mk, nil_mk, append_mk, Int.toNat_natCast, List.take_length, List.drop_zero, Int.toNat_zero, Det]
  refine ⟨fun _ => trivial, fun h => ?_⟩
  refine wp_det (S_CodeValueS s n c) ?_
  cases hc : cvS s n c <;> simp only [optS, ↓w_testd, ↓w_testn, ↓w_teste, ↓w_testne, ↓w_testb, ↓w_testi, w_test, ↓w_need, ↓w_done, step0, step1, step2, has_int, has_bool, has_str, has_sl, has_slnil, has_ptr, has_nil, true_and, and_true, List.headD_cons, List.tail_cons, toInt_v, toStr_v, toBool_v, comp_tup, elems_sl, elems_nil, deref_ptr, isNil_ptr, isNil_nil, cs_agg, cs_cells, es_vec, List.getD_cons_zero, List.getD_cons_succ, List.drop_zero, List.drop_succ_cons, hasK, decide_eq_true_eq, decide_eq_false_iff_not, bne_iff_ne, bne_eq_false_iff_eq, beq_iff_eq, beq_eq_false_iff_ne, Bool.not_eq_true', Bool.not_eq_false', List.length_cons, List.length_nil] <;> refine wp_det (S_CodeValueI s n c) ?_ <;> simp [hc, optS, ↓w_testd, ↓w_testn, ↓w_teste, ↓w_testne, ↓w_testb, ↓w_testi, w_test, ↓w_need, ↓w_done, step0, step1, step2, has_int, has_bool, has_str, has_sl, has_slnil, has_ptr, has_nil, true_and, and_true, List.headD_cons, List.tail_cons, toInt_v, toStr_v, toBool_v, comp_tup, elems_sl, elems_nil, deref_ptr, isNil_ptr, isNil_nil, cs_agg, cs_cells, es_vec, List.getD_cons_zero, List.getD_cons_succ, List.drop_zero, List.drop_succ_cons, hasK, decide_eq_true_eq, decide_eq_false_iff_not, bne_iff_ne, bne_eq_false_iff_eq, beq_iff_eq, beq_eq_false_iff_ne, Bool.not_eq_true', Bool.not_eq_false', List.length_cons, List.length_nil, size_mk, toList_mk, extract_mk, nil_mk, append_mk, Int.toNat_natCast, List.take_length, List.drop_zero, Int.toNat_zero]
end Go.Proofs.Trees
