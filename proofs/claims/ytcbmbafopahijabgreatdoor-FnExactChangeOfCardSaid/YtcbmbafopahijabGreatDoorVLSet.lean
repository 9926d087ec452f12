/-
  Part of a proof: laws over values.
-/
import Derived.Test.YtcbmbafopahijabGreatDoorVLStr
set_option linter.unusedVariables false
set_option linter.unusedSimpArgs false
set_option linter.defProp false
namespace Go.VL
open Go
def zp := And.intro @w_testd (And.intro @w_testn (And.intro @w_teste (And.intro @w_testne (And.intro @w_testb (And.intro @w_testi (And.intro @w_need (@w_done)))))))
def zs := And.intro @w_test (And.intro @step0 (And.intro @step1 (And.intro @step2 (And.intro @has_int (And.intro @has_bool (And.intro @has_str (And.intro @has_sl (And.intro @has_slnil (And.intro @has_ptr (And.intro @has_nil (And.intro @true_and (And.intro @and_true (And.intro @List.headD_cons.{0} (And.intro @List.tail_cons.{0} (And.intro @toInt_v (And.intro @toStr_v (And.intro @toBool_v (And.intro @comp_tup (And.intro @elems_sl (And.intro @elems_nil (And.intro @deref_ptr (And.intro @isNil_ptr (And.intro @isNil_nil (And.intro @cs_agg (And.intro @cs_cells (And.intro @es_vec (And.intro @List.getD_cons_zero.{0} (And.intro @List.getD_cons_succ.{0} (And.intro @List.drop_zero.{0} (And.intro @List.drop_succ_cons.{0} (And.intro @decide_eq_true_eq (And.intro @decide_eq_false_iff_not (And.intro @bne_iff_ne.{0} (And.intro @bne_eq_false_iff_eq.{0} (And.intro @beq_iff_eq.{0} (And.intro @beq_eq_false_iff_ne.{0} (And.intro @Bool.not_eq_true' (And.intro @Bool.not_eq_false' (And.intro @List.length_cons.{0} (@List.length_nil.{0}))))))))))))))))))))))))))))))))))))))))
def zt := And.intro @size_mk (And.intro @toList_mk (And.intro @extract_mk (And.intro @nil_mk (And.intro @append_mk (And.intro @Int.toNat_natCast (And.intro @List.take_length.{0} (And.intro @List.drop_zero.{0} (@Int.toNat_zero))))))))
def zf := And.intro @Bool.false_and (And.intro @Bool.and_false (And.intro @Bool.false_eq_true (And.intro @if_false.{1} (And.intro @Bool.true_and (And.intro @Bool.and_true (And.intro @Bool.and_self (And.intro @Bool.true_or (And.intro @Bool.false_or (And.intro @Bool.or_true (And.intro @Bool.or_false (And.intro @decide_true (And.intro @decide_false (And.intro @not_true_eq_false (And.intro @not_false_eq_true (And.intro @if_true.{1} (And.intro @Bool.not_true (And.intro @Bool.not_false (@eq_self_iff_true.{1}))))))))))))))))))
end Go.VL
