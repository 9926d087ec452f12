/-
  Part of a proof: laws over values.
-/
import Derived.Test.YtomcnpoljpicgaaP1
set_option linter.unusedVariables false
set_option linter.unusedSimpArgs false
namespace Go.Proofs.Trees
open Go Go.VL
/-! ### Valid polynomials -/
def okT (t : T4) : Bool := inR t.c 1 1000000000 && inR t.x 0 400 && inR t.y 0 400 && inR t.z 0 400
def ordT (l : List T4) (i : Nat) : Bool := Nat.beq i 0 || before (l.getD (i - 1) t0) (l.getD i t0)
def valL (l : List T4) : Nat → Nat → Bool
  | 0, _ => true
  | k + 1, i => okT (l.getD i t0) && ordT l i && valL l k (i + 1)
theorem LS_l6pValid (a : AV) (l : List T4) (ha : TermsA a l) (hl : l.length < 1000000000000) : ∀ (k i : Nat), i + k = l.length → LS_spec_l6pValid_1 [a, .v (.int .i64 (i : Int))] [] (LBy (if valL l k i = true then (1, [a], []) else (2, [.v (.bool false)], [])))
  | 0, i, hi => by
    refine G_spec_l6pValid_1 _ _ ?_
    simp only [r_spec_l6pValid_1, ↓w_testd, ↓w_testn, ↓w_teste, ↓w_testne, ↓w_testb, ↓w_testi, w_test, ↓w_need, ↓w_done, step0, step1, step2, has_int, has_bool, has_str, has_sl, has_slnil, has_ptr, has_nil, true_and, and_true, List.headD_cons, List.tail_cons, toInt_v, toStr_v, toBool_v, comp_tup, elems_sl, elems_nil, deref_ptr, isNil_ptr, isNil_nil, cs_agg, cs_cells, es_vec, List.getD_cons_zero, List.getD_cons_succ, List.drop_zero, hasK, decide_eq_true_eq, decide_eq_false_iff_not, bne_iff_ne, bne_eq_false_iff_eq, beq_iff_eq, beq_eq_false_iff_ne, Bool.not_eq_true', Bool.not_eq_false', List.length_cons, List.length_nil, ha.len]
    exact ⟨ha.1, ha.1, fun h => by omega, fun _ => by simp [LBy, valL]⟩
  | k + 1, i, hi => by
    have hlt : i < l.length := by omega
    refine G_spec_l6pValid_1 _ _ ?_
    simp only [r_spec_l6pValid_1, ↓w_testd, ↓w_testn, ↓w_teste, ↓w_testne, ↓w_testb, ↓w_testi, w_test, ↓w_need, ↓w_done, step0, step1, step2, has_int, has_bool, has_str, has_sl, has_slnil, has_ptr, has_nil, true_and, and_true, List.headD_cons, List.tail_cons, toInt_v, toStr_v, toBool_v, comp_tup, elems_sl, elems_nil, deref_ptr, isNil_ptr, isNil_nil, cs_agg, cs_cells, es_vec, List.getD_cons_zero, List.getD_cons_succ, List.drop_zero, hasK, decide_eq_true_eq, decide_eq_false_iff_not, bne_iff_ne, bne_eq_false_iff_eq, beq_iff_eq, beq_eq_false_iff_ne, Bool.not_eq_true', Bool.not_eq_false', List.length_cons, List.length_nil, ha.len, Int.toNat_natCast, ha.idx hlt, cells_len, cells_has, cells_0, cells_1, cells_2, cells_3]
    refine ⟨ha.1, ha.1, fun _ => ⟨⟨ha.1, by omega, by omega⟩, by omega, ?_⟩, fun h => by omega⟩
    refine wp_det (S_l6In _ _ _) ?_
    simp only [↓w_testd, ↓w_testn, ↓w_teste, ↓w_testne, ↓w_testb, ↓w_testi, w_test, ↓w_need, ↓w_done, step0, step1, step2, has_int, has_bool, has_str, has_sl, has_slnil, has_ptr, has_nil, true_and, and_true, List.headD_cons, List.tail_cons, toInt_v, toStr_v, toBool_v, comp_tup, elems_sl, elems_nil, deref_ptr, isNil_ptr, isNil_nil, cs_agg, cs_cells, es_vec, List.getD_cons_zero, List.getD_cons_succ, List.drop_zero, hasK, decide_eq_true_eq, decide_eq_false_iff_not, bne_iff_ne, bne_eq_false_iff_eq, beq_iff_eq, beq_eq_false_iff_ne, Bool.not_eq_true', Bool.not_eq_false', List.length_cons, List.length_nil]
    refine ⟨fun h => by simp only [LBy, valL, okT, h, Bool.false_and, Bool.and_false, Bool.false_eq_true, if_false, Bool.true_and, Bool.and_true, Bool.and_self, Bool.true_or, Bool.false_or, Bool.or_true, Bool.or_false, decide_true, decide_false, not_true_eq_false, not_false_eq_true, if_true, Bool.not_true, Bool.not_false, eq_self_iff_true], fun h1 => ?_⟩
    refine wp_det (S_l6In _ _ _) ?_
    simp only [↓w_testd, ↓w_testn, ↓w_teste, ↓w_testne, ↓w_testb, ↓w_testi, w_test, ↓w_need, ↓w_done, step0, step1, step2, has_int, has_bool, has_str, has_sl, has_slnil, has_ptr, has_nil, true_and, and_true, List.headD_cons, List.tail_cons, toInt_v, toStr_v, toBool_v, comp_tup, elems_sl, elems_nil, deref_ptr, isNil_ptr, isNil_nil, cs_agg, cs_cells, es_vec, List.getD_cons_zero, List.getD_cons_succ, List.drop_zero, hasK, decide_eq_true_eq, decide_eq_false_iff_not, bne_iff_ne, bne_eq_false_iff_eq, beq_iff_eq, beq_eq_false_iff_ne, Bool.not_eq_true', Bool.not_eq_false', List.length_cons, List.length_nil]
    refine ⟨fun h => by simp only [LBy, valL, okT, h, Bool.false_and, Bool.and_false, Bool.false_eq_true, if_false, Bool.true_and, Bool.and_true, Bool.and_self, Bool.true_or, Bool.false_or, Bool.or_true, Bool.or_false, decide_true, decide_false, not_true_eq_false, not_false_eq_true, if_true, Bool.not_true, Bool.not_false, eq_self_iff_true], fun h2 => ?_⟩
    refine wp_det (S_l6In _ _ _) ?_
    simp only [↓w_testd, ↓w_testn, ↓w_teste, ↓w_testne, ↓w_testb, ↓w_testi, w_test, ↓w_need, ↓w_done, step0, step1, step2, has_int, has_bool, has_str, has_sl, has_slnil, has_ptr, has_nil, true_and, and_true, List.headD_cons, List.tail_cons, toInt_v, toStr_v, toBool_v, comp_tup, elems_sl, elems_nil, deref_ptr, isNil_ptr, isNil_nil, cs_agg, cs_cells, es_vec, List.getD_cons_zero, List.getD_cons_succ, List.drop_zero, hasK, decide_eq_true_eq, decide_eq_false_iff_not, bne_iff_ne, bne_eq_false_iff_eq, beq_iff_eq, beq_eq_false_iff_ne, Bool.not_eq_true', Bool.not_eq_false', List.length_cons, List.length_nil]
    refine ⟨fun h => by simp only [LBy, valL, okT, h, Bool.false_and, Bool.and_false, Bool.false_eq_true, if_false, Bool.true_and, Bool.and_true, Bool.and_self, Bool.true_or, Bool.false_or, Bool.or_true, Bool.or_false, decide_true, decide_false, not_true_eq_false, not_false_eq_true, if_true, Bool.not_true, Bool.not_false, eq_self_iff_true], fun h3 => ?_⟩
    refine wp_det (S_l6In _ _ _) ?_
    simp only [↓w_testd, ↓w_testn, ↓w_teste, ↓w_testne, ↓w_testb, ↓w_testi, w_test, ↓w_need, ↓w_done, step0, step1, step2, has_int, has_bool, has_str, has_sl, has_slnil, has_ptr, has_nil, true_and, and_true, List.headD_cons, List.tail_cons, toInt_v, toStr_v, toBool_v, comp_tup, elems_sl, elems_nil, deref_ptr, isNil_ptr, isNil_nil, cs_agg, cs_cells, es_vec, List.getD_cons_zero, List.getD_cons_succ, List.drop_zero, hasK, decide_eq_true_eq, decide_eq_false_iff_not, bne_iff_ne, bne_eq_false_iff_eq, beq_iff_eq, beq_eq_false_iff_ne, Bool.not_eq_true', Bool.not_eq_false', List.length_cons, List.length_nil]
    refine ⟨fun h => by simp only [LBy, valL, okT, h, Bool.false_and, Bool.and_false, Bool.false_eq_true, if_false, Bool.true_and, Bool.and_true, Bool.and_self, Bool.true_or, Bool.false_or, Bool.or_true, Bool.or_false, decide_true, decide_false, not_true_eq_false, not_false_eq_true, if_true, Bool.not_true, Bool.not_false, eq_self_iff_true], fun h4 => ⟨fun h => ?_, fun h => ?_⟩⟩
    · have h0 : 0 < i := by omega
      have hlt' : i - 1 < l.length := by omega
      simp only [↓w_testd, ↓w_testn, ↓w_teste, ↓w_testne, ↓w_testb, ↓w_testi, w_test, ↓w_need, ↓w_done, step0, step1, step2, has_int, has_bool, has_str, has_sl, has_slnil, has_ptr, has_nil, true_and, and_true, List.headD_cons, List.tail_cons, toInt_v, toStr_v, toBool_v, comp_tup, elems_sl, elems_nil, deref_ptr, isNil_ptr, isNil_nil, cs_agg, cs_cells, es_vec, List.getD_cons_zero, List.getD_cons_succ, List.drop_zero, hasK, decide_eq_true_eq, decide_eq_false_iff_not, bne_iff_ne, bne_eq_false_iff_eq, beq_iff_eq, beq_eq_false_iff_ne, Bool.not_eq_true', Bool.not_eq_false', List.length_cons, List.length_nil, wrap_pred i h0 (by omega), Int.toNat_natCast, ha.idx hlt', cells_len, cells_has, cells_0, cells_1, cells_2, cells_3]
      refine ⟨⟨ha.1, by omega, by omega⟩, by omega, ?_⟩
      refine wp_det (S_l6pBefore (l.getD (i - 1) t0) (l.getD i t0)) ?_
      have hb : Nat.beq i 0 = false := by cases i with | zero => omega | succ i => rfl
      simp only [↓w_testd, ↓w_testn, ↓w_teste, ↓w_testne, ↓w_testb, ↓w_testi, w_test, ↓w_need, ↓w_done, step0, step1, step2, has_int, has_bool, has_str, has_sl, has_slnil, has_ptr, has_nil, true_and, and_true, List.headD_cons, List.tail_cons, toInt_v, toStr_v, toBool_v, comp_tup, elems_sl, elems_nil, deref_ptr, isNil_ptr, isNil_nil, cs_agg, cs_cells, es_vec, List.getD_cons_zero, List.getD_cons_succ, List.drop_zero, hasK, decide_eq_true_eq, decide_eq_false_iff_not, bne_iff_ne, bne_eq_false_iff_eq, beq_iff_eq, beq_eq_false_iff_ne, Bool.not_eq_true', Bool.not_eq_false', List.length_cons, List.length_nil]
      refine ⟨fun h5 => by simp only [LBy, valL, okT, ordT, hb, h5, Bool.false_and, Bool.and_false, Bool.false_eq_true, if_false, Bool.true_and, Bool.and_true, Bool.and_self, Bool.true_or, Bool.false_or, Bool.or_true, Bool.or_false, decide_true, decide_false, not_true_eq_false, not_false_eq_true, if_true, Bool.not_true, Bool.not_false, eq_self_iff_true], fun h5 => ?_⟩
      rw [wrap_succ i (by omega)]
      have := LS_l6pValid a l ha hl k (i + 1) (by omega)
      simpa only [valL, okT, h1, h2, h3, h4, ordT, hb, h5, Bool.and_self, Bool.true_and, Bool.false_or] using this
    · have h0 : i = 0 := by omega
      subst h0
      rw [wrap_succ 0 (by omega)]
      have := LS_l6pValid a l ha hl k (0 + 1) (by omega)
      have hb : Nat.beq 0 0 = true := rfl
      simpa only [valL, okT, h1, h2, h3, h4, ordT, hb, Bool.and_self, Bool.true_and, Bool.true_or] using this
def valid (l : List T4) : Bool := valL l l.length 0 && decide (l.length ≤ 60)
theorem S_l6pValid (a : AV) (l : List T4) (ha : TermsA a l) (hl : l.length < 1000000000000) : FSpec Try.prog n_spec_l6pValid [a] [] (Det (.v (.bool (valid l)))) := by
  refine F_spec_l6pValid _ ha.1 ?_
  unfold t_spec_l6pValid
  refine wp_loopB (LS_l6pValid a l ha hl l.length 0 (by omega)) (fun ys o e => ?_) (fun ys o e => ?_)
  · split at e <;> cases e
    rename_i h
    simp only [↓w_testd, ↓w_testn, ↓w_teste, ↓w_testne, ↓w_testb, ↓w_testi, w_test, ↓w_need, ↓w_done, step0, step1, step2, has_int, has_bool, has_str, has_sl, has_slnil, has_ptr, has_nil, true_and, and_true, List.headD_cons, List.tail_cons, toInt_v, toStr_v, toBool_v, comp_tup, elems_sl, elems_nil, deref_ptr, isNil_ptr, isNil_nil, cs_agg, cs_cells, es_vec, List.getD_cons_zero, List.getD_cons_succ, List.drop_zero, hasK, decide_eq_true_eq, decide_eq_false_iff_not, bne_iff_ne, bne_eq_false_iff_eq, beq_iff_eq, beq_eq_false_iff_ne, Bool.not_eq_true', Bool.not_eq_false', List.length_cons, List.length_nil, ha.len, Det, valid, h]
    refine ⟨ha.1, ha.1, ?_⟩
    congr 3
    simp; omega
  · split at e <;> cases e
    rename_i h
    simp [wpT, has_bool, AV.toBool, Det, valid, h]
/-- The powers of a term, looked at one after another. -/
def powL (es : List Int) : Nat → Nat → Bool
  | 0, _ => true
  | k + 1, i => decide (¬ es.getD i 0 < 0) && decide (¬ es.getD i 0 > 400) && powL es k (i + 1)
theorem intCells_idx (l : List Int) {i : Nat} (hi : i < l.length) : (intCells l).getD i [] = [.v (.int .i64 (l.getD i 0))] := by
  simp [intCells, List.getD_eq_getElem?_getD, hi]
theorem LS_isPoly2 (a b : AV) (ha : LK.sl.has a) (hb : LK.sl.has b) (x8 x9 : Int) (es : List Int) (hl : es.length < 1000) : ∀ (k i : Nat), i + k = es.length → LS_impl_isPoly_2 [a, b, .v (.int .i64 x8), .v (.int .i64 x9), .v (.int .i64 (es.length : Int)), .v (.int .i64 (i : Int))] [.vec 1 (intCells es)]
    (LBy (if powL es k i = true then (1, [a, b, .v (.int .i64 x8), .v (.int .i64 x9)], []) else (2, [.v (.bool false)], [])))
  | 0, i, hi => by
    refine G_impl_isPoly_2 _ _ _ _ _ _ _ ?_
    simp only [r_impl_isPoly_2, ↓w_testd, ↓w_testn, ↓w_teste, ↓w_testne, ↓w_testb, ↓w_testi, w_test, ↓w_need, ↓w_done, step0, step1, step2, has_int, has_bool, has_str, has_sl, has_slnil, has_ptr, has_nil, true_and, and_true, List.headD_cons, List.tail_cons, toInt_v, toStr_v, toBool_v, comp_tup, elems_sl, elems_nil, deref_ptr, isNil_ptr, isNil_nil, cs_agg, cs_cells, es_vec, List.getD_cons_zero, List.getD_cons_succ, List.drop_zero, hasK, decide_eq_true_eq, decide_eq_false_iff_not, bne_iff_ne, bne_eq_false_iff_eq, beq_iff_eq, beq_eq_false_iff_ne, Bool.not_eq_true', Bool.not_eq_false', List.length_cons, List.length_nil]
    exact ⟨ha, hb, fun h => by omega, fun _ => by simp [LBy, powL]⟩
  | k + 1, i, hi => by
    have hlt : i < es.length := by omega
    have hlen : (intCells es).length = es.length := by simp [intCells]
    refine G_impl_isPoly_2 _ _ _ _ _ _ _ ?_
    simp only [r_impl_isPoly_2, ↓w_testd, ↓w_testn, ↓w_teste, ↓w_testne, ↓w_testb, ↓w_testi, w_test, ↓w_need, ↓w_done, step0, step1, step2, has_int, has_bool, has_str, has_sl, has_slnil, has_ptr, has_nil, true_and, and_true, List.headD_cons, List.tail_cons, toInt_v, toStr_v, toBool_v, comp_tup, elems_sl, elems_nil, deref_ptr, isNil_ptr, isNil_nil, cs_agg, cs_cells, es_vec, List.getD_cons_zero, List.getD_cons_succ, List.drop_zero, hasK, decide_eq_true_eq, decide_eq_false_iff_not, bne_iff_ne, bne_eq_false_iff_eq, beq_iff_eq, beq_eq_false_iff_ne, Bool.not_eq_true', Bool.not_eq_false', List.length_cons, List.length_nil, Int.toNat_natCast, intCells_idx es hlt, hlen]
    refine ⟨ha, hb, fun _ => ⟨by omega, ⟨hlt, by omega⟩, fun h => by simp only [LBy, powL, h, Bool.false_and, Bool.and_false, Bool.false_eq_true, if_false, Bool.true_and, Bool.and_true, Bool.and_self, Bool.true_or, Bool.false_or, Bool.or_true, Bool.or_false, decide_true, decide_false, not_true_eq_false, not_false_eq_true, if_true, Bool.not_true, Bool.not_false, eq_self_iff_true], fun h => ⟨fun h2 => by simp only [LBy, powL, h2, Bool.false_and, Bool.and_false, Bool.false_eq_true, if_false, Bool.true_and, Bool.and_true, Bool.and_self, Bool.true_or, Bool.false_or, Bool.or_true, Bool.or_false, decide_true, decide_false, not_true_eq_false, not_false_eq_true, if_true, Bool.not_true, Bool.not_false, eq_self_iff_true], fun h2 => ?_⟩⟩, fun h => by omega⟩
    rw [wrap_succ i (by omega)]
    have := LS_isPoly2 a b ha hb x8 x9 es hl k (i + 1) (by omega)
    simpa only [powL, h, h2, decide_true, not_false_eq_true, Bool.true_and] using this
theorem okT_pow (t : T4) : okT t = (decide (¬ t.c < 1) && (decide (¬ t.c > 1000000000) && powL [t.x, t.y, t.z] 3 0)) := by
  rw [Bool.eq_iff_iff]
  simp [okT, inR, powL]
  omega
theorem LS_isPoly1 (a : AV) (l : List T4) (ha : TermsA a l) (hl : l.length < 1000000000000) : ∀ (k i : Nat), i + k = l.length → LS_impl_isPoly_1 [a, a, .v (.int .i64 (l.length : Int)), .v (.int .i64 (i : Int))] [] (LBy (if valL l k i = true then (1, [a], []) else (2, [.v (.bool false)], [])))
  | 0, i, hi => by
    refine G_impl_isPoly_1 _ _ _ _ ?_
    simp only [r_impl_isPoly_1, ↓w_testd, ↓w_testn, ↓w_teste, ↓w_testne, ↓w_testb, ↓w_testi, w_test, ↓w_need, ↓w_done, step0, step1, step2, has_int, has_bool, has_str, has_sl, has_slnil, has_ptr, has_nil, true_and, and_true, List.headD_cons, List.tail_cons, toInt_v, toStr_v, toBool_v, comp_tup, elems_sl, elems_nil, deref_ptr, isNil_ptr, isNil_nil, cs_agg, cs_cells, es_vec, List.getD_cons_zero, List.getD_cons_succ, List.drop_zero, hasK, decide_eq_true_eq, decide_eq_false_iff_not, bne_iff_ne, bne_eq_false_iff_eq, beq_iff_eq, beq_eq_false_iff_ne, Bool.not_eq_true', Bool.not_eq_false', List.length_cons, List.length_nil]
    exact ⟨ha.1, ha.1, fun h => by omega, fun _ => by simp [LBy, valL]⟩
  | k + 1, i, hi => by
    have hlt : i < l.length := by omega
    refine G_impl_isPoly_1 _ _ _ _ ?_
    have key : (okT (l.getD i t0) && ordT l i) = true → powL [(l.getD i t0).x, (l.getD i t0).y, (l.getD i t0).z] 3 0 = true := fun h => by
      rw [okT_pow] at h; simp at h; simp [h]
    have rec1 := LS_isPoly2 a a ha.1 ha.1 (l.length : Int) (i : Int) [(l.getD i t0).x, (l.getD i t0).y, (l.getD i t0).z] (by simp) 3 0 rfl
    simp only [r_impl_isPoly_1, ↓w_testd, ↓w_testn, ↓w_teste, ↓w_testne, ↓w_testb, ↓w_testi, w_test, ↓w_need, ↓w_done, step0, step1, step2, has_int, has_bool, has_str, has_sl, has_slnil, has_ptr, has_nil, true_and, and_true, List.headD_cons, List.tail_cons, toInt_v, toStr_v, toBool_v, comp_tup, elems_sl, elems_nil, deref_ptr, isNil_ptr, isNil_nil, cs_agg, cs_cells, es_vec, List.getD_cons_zero, List.getD_cons_succ, List.drop_zero, hasK, decide_eq_true_eq, decide_eq_false_iff_not, bne_iff_ne, bne_eq_false_iff_eq, beq_iff_eq, beq_eq_false_iff_ne, Bool.not_eq_true', Bool.not_eq_false', List.length_cons, List.length_nil, ha.len, Int.toNat_natCast, ha.idx hlt, cells_len, cells_has, cells_0, cells_1, cells_2, cells_3]
    refine ⟨ha.1, ha.1, fun _ => ⟨⟨ha.1, by omega, by omega⟩, by omega, fun h => ?_, fun h1 => ⟨fun h => ?_, fun h2 => ⟨fun h => ?_, fun h => ?_⟩⟩⟩, fun h => by omega⟩
    · simp only [LBy, valL, okT_pow, h, Bool.false_and, Bool.and_false, Bool.false_eq_true, if_false, Bool.true_and, Bool.and_true, Bool.and_self, Bool.true_or, Bool.false_or, Bool.or_true, Bool.or_false, decide_true, decide_false, not_true_eq_false, not_false_eq_true, if_true, Bool.not_true, Bool.not_false, eq_self_iff_true]
    · simp only [LBy, valL, okT_pow, h, Bool.false_and, Bool.and_false, Bool.false_eq_true, if_false, Bool.true_and, Bool.and_true, Bool.and_self, Bool.true_or, Bool.false_or, Bool.or_true, Bool.or_false, decide_true, decide_false, not_true_eq_false, not_false_eq_true, if_true, Bool.not_true, Bool.not_false, eq_self_iff_true]
    · have h0 : 0 < i := by omega
      have hlt' : i - 1 < l.length := by omega
      have hb : Nat.beq i 0 = false := by cases i with | zero => omega | succ i => rfl
      simp only [↓w_testd, ↓w_testn, ↓w_teste, ↓w_testne, ↓w_testb, ↓w_testi, w_test, ↓w_need, ↓w_done, step0, step1, step2, has_int, has_bool, has_str, has_sl, has_slnil, has_ptr, has_nil, true_and, and_true, List.headD_cons, List.tail_cons, toInt_v, toStr_v, toBool_v, comp_tup, elems_sl, elems_nil, deref_ptr, isNil_ptr, isNil_nil, cs_agg, cs_cells, es_vec, List.getD_cons_zero, List.getD_cons_succ, List.drop_zero, hasK, decide_eq_true_eq, decide_eq_false_iff_not, bne_iff_ne, bne_eq_false_iff_eq, beq_iff_eq, beq_eq_false_iff_ne, Bool.not_eq_true', Bool.not_eq_false', List.length_cons, List.length_nil, wrap_pred i h0 (by omega), Int.toNat_natCast, ha.idx hlt', cells_len, cells_has, cells_0, cells_1, cells_2, cells_3]
      refine ⟨⟨ha.1, by omega, by omega⟩, by omega, ?_⟩
      refine wp_det (S_compareTerms (l.getD (i - 1) t0) (l.getD i t0)) ?_
      simp only [↓w_testd, ↓w_testn, ↓w_teste, ↓w_testne, ↓w_testb, ↓w_testi, w_test, ↓w_need, ↓w_done, step0, step1, step2, has_int, has_bool, has_str, has_sl, has_slnil, has_ptr, has_nil, true_and, and_true, List.headD_cons, List.tail_cons, toInt_v, toStr_v, toBool_v, comp_tup, elems_sl, elems_nil, deref_ptr, isNil_ptr, isNil_nil, cs_agg, cs_cells, es_vec, List.getD_cons_zero, List.getD_cons_succ, List.drop_zero, hasK, decide_eq_true_eq, decide_eq_false_iff_not, bne_iff_ne, bne_eq_false_iff_eq, beq_iff_eq, beq_eq_false_iff_ne, Bool.not_eq_true', Bool.not_eq_false', List.length_cons, List.length_nil]
      refine ⟨fun h5 => ?_, fun h5 => ?_⟩
      · have : before (l.getD (i - 1) t0) (l.getD i t0) = false := by rw [cmpT_before]; exact decide_eq_false (by omega)
        simp only [LBy, valL, ordT, hb, this, Bool.false_and, Bool.and_false, Bool.false_eq_true, if_false, Bool.true_and, Bool.and_true, Bool.and_self, Bool.true_or, Bool.false_or, Bool.or_true, Bool.or_false, decide_true, decide_false, not_true_eq_false, not_false_eq_true, if_true, Bool.not_true, Bool.not_false, eq_self_iff_true]
      · have hbf : before (l.getD (i - 1) t0) (l.getD i t0) = true := by rw [cmpT_before]; exact decide_eq_true (by omega)
        refine wp_loopB rec1 (fun ys o e => ?_) (fun ys o e => ?_)
        · split at e <;> cases e
          rename_i hp
          simp only [↓w_testd, ↓w_testn, ↓w_teste, ↓w_testne, ↓w_testb, ↓w_testi, w_test, ↓w_need, ↓w_done, step0, step1, step2, has_int, has_bool, has_str, has_sl, has_slnil, has_ptr, has_nil, true_and, and_true, List.headD_cons, List.tail_cons, toInt_v, toStr_v, toBool_v, comp_tup, elems_sl, elems_nil, deref_ptr, isNil_ptr, isNil_nil, cs_agg, cs_cells, es_vec, List.getD_cons_zero, List.getD_cons_succ, List.drop_zero, hasK, decide_eq_true_eq, decide_eq_false_iff_not, bne_iff_ne, bne_eq_false_iff_eq, beq_iff_eq, beq_eq_false_iff_ne, Bool.not_eq_true', Bool.not_eq_false', List.length_cons, List.length_nil]
          refine ⟨ha.1, ha.1, ?_⟩
          rw [wrap_succ i (by omega)]
          have := LS_isPoly1 a l ha hl k (i + 1) (by omega)
          simpa only [valL, okT_pow, h1, h2, hp, ordT, hb, hbf, decide_true, not_false_eq_true, Bool.and_self, Bool.true_and, Bool.false_or] using this
        · split at e <;> cases e
          rename_i hp
          simp only [↓w_testd, ↓w_testn, ↓w_teste, ↓w_testne, ↓w_testb, ↓w_testi, w_test, ↓w_need, ↓w_done, step0, step1, step2, has_int, has_bool, has_str, has_sl, has_slnil, has_ptr, has_nil, true_and, and_true, List.headD_cons, List.tail_cons, toInt_v, toStr_v, toBool_v, comp_tup, elems_sl, elems_nil, deref_ptr, isNil_ptr, isNil_nil, cs_agg, cs_cells, es_vec, List.getD_cons_zero, List.getD_cons_succ, List.drop_zero, hasK, decide_eq_true_eq, decide_eq_false_iff_not, bne_iff_ne, bne_eq_false_iff_eq, beq_iff_eq, beq_eq_false_iff_ne, Bool.not_eq_true', Bool.not_eq_false', List.length_cons, List.length_nil]
          simp only [LBy, valL, okT_pow, hp, Bool.false_and, Bool.and_false, Bool.false_eq_true, if_false, Bool.true_and, Bool.and_true, Bool.and_self, Bool.true_or, Bool.false_or, Bool.or_true, Bool.or_false, decide_true, decide_false, not_true_eq_false, not_false_eq_true, if_true, Bool.not_true, Bool.not_false, eq_self_iff_true]
    · have h0 : i = 0 := by omega
      subst h0
      have hb : Nat.beq 0 0 = true := rfl
      refine wp_loopB rec1 (fun ys o e => ?_) (fun ys o e => ?_)
      · split at e <;> cases e
        rename_i hp
        simp only [↓w_testd, ↓w_testn, ↓w_teste, ↓w_testne, ↓w_testb, ↓w_testi, w_test, ↓w_need, ↓w_done, step0, step1, step2, has_int, has_bool, has_str, has_sl, has_slnil, has_ptr, has_nil, true_and, and_true, List.headD_cons, List.tail_cons, toInt_v, toStr_v, toBool_v, comp_tup, elems_sl, elems_nil, deref_ptr, isNil_ptr, isNil_nil, cs_agg, cs_cells, es_vec, List.getD_cons_zero, List.getD_cons_succ, List.drop_zero, hasK, decide_eq_true_eq, decide_eq_false_iff_not, bne_iff_ne, bne_eq_false_iff_eq, beq_iff_eq, beq_eq_false_iff_ne, Bool.not_eq_true', Bool.not_eq_false', List.length_cons, List.length_nil]
        refine ⟨ha.1, ha.1, ?_⟩
        rw [wrap_succ 0 (by omega)]
        have := LS_isPoly1 a l ha hl k (0 + 1) (by omega)
        simpa only [valL, okT_pow, h1, h2, hp, ordT, hb, decide_true, not_false_eq_true, Bool.and_self, Bool.true_and, Bool.true_or] using this
      · split at e <;> cases e
        rename_i hp
        simp only [↓w_testd, ↓w_testn, ↓w_teste, ↓w_testne, ↓w_testb, ↓w_testi, w_test, ↓w_need, ↓w_done, step0, step1, step2, has_int, has_bool, has_str, has_sl, has_slnil, has_ptr, has_nil, true_and, and_true, List.headD_cons, List.tail_cons, toInt_v, toStr_v, toBool_v, comp_tup, elems_sl, elems_nil, deref_ptr, isNil_ptr, isNil_nil, cs_agg, cs_cells, es_vec, List.getD_cons_zero, List.getD_cons_succ, List.drop_zero, hasK, decide_eq_true_eq, decide_eq_false_iff_not, bne_iff_ne, bne_eq_false_iff_eq, beq_iff_eq, beq_eq_false_iff_ne, Bool.not_eq_true', Bool.not_eq_false', List.length_cons, List.length_nil]
        simp only [LBy, valL, okT_pow, hp, Bool.false_and, Bool.and_false, Bool.false_eq_true, if_false, Bool.true_and, Bool.and_true, Bool.and_self, Bool.true_or, Bool.false_or, Bool.or_true, Bool.or_false, decide_true, decide_false, not_true_eq_false, not_false_eq_true, if_true, Bool.not_true, Bool.not_false, eq_self_iff_true]
theorem S_isPoly (a : AV) (l : List T4) (ha : TermsA a l) (hl : l.length < 1000000000000) : FSpec Try.prog n_impl_isPoly [a] [] (Det (.v (.bool (valid l)))) := by
  refine F_impl_isPoly _ ha.1 ?_
  simp only [t_impl_isPoly, w_need, ha.len]
  refine ⟨ha.1, wp_loopB (LS_isPoly1 a l ha hl l.length 0 (by omega)) (fun ys o e => ?_) (fun ys o e => ?_)⟩
  · split at e <;> cases e
    rename_i h
    simp only [↓w_testd, ↓w_testn, ↓w_teste, ↓w_testne, ↓w_testb, ↓w_testi, w_test, ↓w_need, ↓w_done, step0, step1, step2, has_int, has_bool, has_str, has_sl, has_slnil, has_ptr, has_nil, true_and, and_true, List.headD_cons, List.tail_cons, toInt_v, toStr_v, toBool_v, comp_tup, elems_sl, elems_nil, deref_ptr, isNil_ptr, isNil_nil, cs_agg, cs_cells, es_vec, List.getD_cons_zero, List.getD_cons_succ, List.drop_zero, hasK, decide_eq_true_eq, decide_eq_false_iff_not, bne_iff_ne, bne_eq_false_iff_eq, beq_iff_eq, beq_eq_false_iff_ne, Bool.not_eq_true', Bool.not_eq_false', List.length_cons, List.length_nil, ha.len, Det, valid, h]
    refine ⟨ha.1, ha.1, ?_⟩
    congr 3
    simp; omega
  · split at e <;> cases e
    rename_i h
    simp [wpT, has_bool, AV.toBool, Det, valid, h]
end Go.Proofs.Trees
