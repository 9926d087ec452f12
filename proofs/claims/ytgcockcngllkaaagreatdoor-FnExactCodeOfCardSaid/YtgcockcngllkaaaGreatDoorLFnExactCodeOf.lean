/-
  Part of a proof: laws over values.
-/
import Derived.Test.YtgcockcngllkaaaGreatDoorC3
set_option linter.unusedVariables false
set_option linter.unusedSimpArgs false
namespace Go.Proofs.Trees
open Go Go.VL
theorem S_FnExactCodeOf (s : List UInt8) (n : Int) (v : List UInt8) : FSpec Tryz.prog n_laws_FnExactCodeOf [.v (.string (mk s)), .v (.int .i64 n), .v (.string (mk v))] [] (Det (.v (.bool true))) := by
  refine F_laws_FnExactCodeOf _ _ _ ?_
  simp only [t_laws_FnExactCodeOf, ↓w_testd, ↓w_testn, ↓w_teste, ↓w_testne, ↓w_testb, ↓w_testi, w_test, ↓w_need, ↓w_done, step0, step1, step2, has_int, has_bool, has_str, has_sl, has_slnil, has_ptr, has_nil, true_and, and_true, List.headD_cons, List.tail_cons, toInt_v, toStr_v, toBool_v, comp_tup, elems_sl, elems_nil, deref_ptr, isNil_ptr, isNil_nil, cs_agg, cs_cells, es_vec, List.getD_cons_zero, List.getD_cons_succ, List.drop_zero, List.drop_succ_cons, hasK, decide_eq_true_eq, decide_eq_false_iff_not, bne_iff_ne, bne_eq_false_iff_eq, beq_iff_eq, beq_eq_false_iff_ne, Bool.not_eq_true', Bool.not_eq_false', List.length_cons, List.length_nil, size_mk, toList_mk, extract_mk, nil_mk, append_mk, Int.toNat_natCast, List.take_length, List.drop_zero, Int.toNat_zero, Det]
  refine ⟨fun _ => trivial, fun h => ⟨fun _ => trivial, fun h => ?_⟩⟩
  refine wp_det (S_CodeOfS s n v) ?_
  cases hc : cof s n v <;> simp only [optN, ↓w_testd, ↓w_testn, ↓w_teste, ↓w_testne, ↓w_testb, ↓w_testi, w_test, ↓w_need, ↓w_done, step0, step1, step2, has_int, has_bool, has_str, has_sl, has_slnil, has_ptr, has_nil, true_and, and_true, List.headD_cons, List.tail_cons, toInt_v, toStr_v, toBool_v, comp_tup, elems_sl, elems_nil, deref_ptr, isNil_ptr, isNil_nil, cs_agg, cs_cells, es_vec, List.getD_cons_zero, List.getD_cons_succ, List.drop_zero, List.drop_succ_cons, hasK, decide_eq_true_eq, decide_eq_false_iff_not, bne_iff_ne, bne_eq_false_iff_eq, beq_iff_eq, beq_eq_false_iff_ne, Bool.not_eq_true', Bool.not_eq_false', List.length_cons, List.length_nil] <;> refine wp_det (S_CodeOfI s n v) ?_ <;> simp [hc, optN, ↓w_testd, ↓w_testn, ↓w_teste, ↓w_testne, ↓w_testb, ↓w_testi, w_test, ↓w_need, ↓w_done, step0, step1, step2, has_int, has_bool, has_str, has_sl, has_slnil, has_ptr, has_nil, true_and, and_true, List.headD_cons, List.tail_cons, toInt_v, toStr_v, toBool_v, comp_tup, elems_sl, elems_nil, deref_ptr, isNil_ptr, isNil_nil, cs_agg, cs_cells, es_vec, List.getD_cons_zero, List.getD_cons_succ, List.drop_zero, List.drop_succ_cons, hasK, decide_eq_true_eq, decide_eq_false_iff_not, bne_iff_ne, bne_eq_false_iff_eq, beq_iff_eq, beq_eq_false_iff_ne, Bool.not_eq_true', Bool.not_eq_false', List.length_cons, List.length_nil]
end Go.Proofs.Trees
