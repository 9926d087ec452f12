/-
  Part of a proof: laws over values.
-/
import Derived.Test.YtomcnpoljpicgaaP4
set_option linter.unusedVariables false
set_option linter.unusedSimpArgs false
namespace Go.Proofs.Trees
open Go Go.VL
def numL (es : List Int) : Nat → Nat → Bool
  | 0, _ => true
  | k + 1, i => decide (¬ es.getD i 0 < 0) && decide (¬ es.getD i 0 > 100) && numL es k (i + 1)
theorem LS_PV1 (a : AV) (ha : LK.sl.has a) (x y z : Int) : ∀ (k i : Nat), i + k = 3 → LS_impl_PolyValue_1 [a, .agg [.v (.int .i64 x), .v (.int .i64 y), .v (.int .i64 z)], .v (.int .i64 (i : Int))] [.cells [.v (.int .i64 x), .v (.int .i64 y), .v (.int .i64 z)]]
    (LBy (if numL [x, y, z] k i = true then (1, [a], [.cells [.v (.int .i64 x), .v (.int .i64 y), .v (.int .i64 z)]]) else (2, [.v (.int .i64 0), .v (.bool false)], [])))
  | 0, i, hi => by
    refine G_impl_PolyValue_1 _ _ _ _ _ _ _ _ ?_
    simp only [r_impl_PolyValue_1, ↓w_testd, ↓w_testn, ↓w_teste, ↓w_testne, ↓w_testb, ↓w_testi, w_test, ↓w_need, ↓w_done, step0, step1, step2, has_int, has_bool, has_str, has_sl, has_slnil, has_ptr, has_nil, true_and, and_true, List.headD_cons, List.tail_cons, toInt_v, toStr_v, toBool_v, comp_tup, elems_sl, elems_nil, deref_ptr, isNil_ptr, isNil_nil, cs_agg, cs_cells, es_vec, List.getD_cons_zero, List.getD_cons_succ, List.drop_zero, hasK, decide_eq_true_eq, decide_eq_false_iff_not, bne_iff_ne, bne_eq_false_iff_eq, beq_iff_eq, beq_eq_false_iff_ne, Bool.not_eq_true', Bool.not_eq_false', List.length_cons, List.length_nil, hasL]
    exact ⟨ha, fun h => by omega, fun _ => by simp [numL, LBy]⟩
  | k + 1, i, hi => by
    have hg : ([.v (.int .i64 x), .v (.int .i64 y), .v (.int .i64 z)] : List AV).getD (i * 1) .any = .v (.int .i64 ([x, y, z].getD i 0)) := by
      have : i = 0 ∨ i = 1 ∨ i = 2 := by omega
      rcases this with rfl | rfl | rfl <;> rfl
    refine G_impl_PolyValue_1 _ _ _ _ _ _ _ _ ?_
    simp only [r_impl_PolyValue_1, ↓w_testd, ↓w_testn, ↓w_teste, ↓w_testne, ↓w_testb, ↓w_testi, w_test, ↓w_need, ↓w_done, step0, step1, step2, has_int, has_bool, has_str, has_sl, has_slnil, has_ptr, has_nil, true_and, and_true, List.headD_cons, List.tail_cons, toInt_v, toStr_v, toBool_v, comp_tup, elems_sl, elems_nil, deref_ptr, isNil_ptr, isNil_nil, cs_agg, cs_cells, es_vec, List.getD_cons_zero, List.getD_cons_succ, List.drop_zero, hasK, decide_eq_true_eq, decide_eq_false_iff_not, bne_iff_ne, bne_eq_false_iff_eq, beq_iff_eq, beq_eq_false_iff_ne, Bool.not_eq_true', Bool.not_eq_false', List.length_cons, List.length_nil, hasL, Int.toNat_natCast, hg]
    refine ⟨ha, fun _ => ⟨⟨by omega, by omega⟩, fun h => ?_, fun h1 => ⟨fun h => ?_, fun h2 => ?_⟩⟩, fun h => by omega⟩
    · simp only [LBy, numL, h, Bool.false_and, Bool.and_false, Bool.false_eq_true, if_false, Bool.true_and, Bool.and_true, Bool.and_self, Bool.true_or, Bool.false_or, Bool.or_true, Bool.or_false, decide_true, decide_false, not_true_eq_false, not_false_eq_true, if_true, Bool.not_true, Bool.not_false, eq_self_iff_true]
    · simp only [LBy, numL, h, Bool.false_and, Bool.and_false, Bool.false_eq_true, if_false, Bool.true_and, Bool.and_true, Bool.and_self, Bool.true_or, Bool.false_or, Bool.or_true, Bool.or_false, decide_true, decide_false, not_true_eq_false, not_false_eq_true, if_true, Bool.not_true, Bool.not_false, eq_self_iff_true]
    · rw [wrap_succ i (by omega)]
      have ih := LS_PV1 a ha x y z k (i + 1) (by omega)
      simpa only [numL, h1, h2, Bool.false_and, Bool.and_false, Bool.false_eq_true, if_false, Bool.true_and, Bool.and_true, Bool.and_self, Bool.true_or, Bool.false_or, Bool.or_true, Bool.or_false, decide_true, decide_false, not_true_eq_false, not_false_eq_true, if_true, Bool.not_true, Bool.not_false, eq_self_iff_true] using ih
theorem numL_iff (x y z : Int) : numL [x, y, z] 3 0 = true ↔ inR x 0 100 = true ∧ inR y 0 100 = true ∧ inR z 0 100 = true := by
  simp [numL, inR]
theorem LS_PV2 (a : AV) (l : List T4) (ha : TermsA a l) (hl : l.length ≤ 60) (hok : ∀ j, j < l.length → okT (l.getD j t0) = true) (x y z : Int) (hx : 0 ≤ x ∧ x ≤ 100) (hy : 0 ≤ y ∧ y ≤ 100) (hz : 0 ≤ z ∧ z ≤ 100) :
    ∀ (k i : Nat) (s : Int), i + k = l.length → 0 ≤ s → s ≤ 1000000000 → LS_impl_PolyValue_2 [.v (.int .i64 s), a, .v (.int .i64 (l.length : Int)), .v (.int .i64 (i : Int))] [.cells [.v (.int .i64 x), .v (.int .i64 y), .v (.int .i64 z)]] (LBy (sumR (sumL l x y z k i s)))
  | 0, i, s, hi, h0, h1 => by
    refine G_impl_PolyValue_2 _ _ _ _ _ _ _ ?_
    simp only [r_impl_PolyValue_2, ↓w_testd, ↓w_testn, ↓w_teste, ↓w_testne, ↓w_testb, ↓w_testi, w_test, ↓w_need, ↓w_done, step0, step1, step2, has_int, has_bool, has_str, has_sl, has_slnil, has_ptr, has_nil, true_and, and_true, List.headD_cons, List.tail_cons, toInt_v, toStr_v, toBool_v, comp_tup, elems_sl, elems_nil, deref_ptr, isNil_ptr, isNil_nil, cs_agg, cs_cells, es_vec, List.getD_cons_zero, List.getD_cons_succ, List.drop_zero, hasK, decide_eq_true_eq, decide_eq_false_iff_not, bne_iff_ne, bne_eq_false_iff_eq, beq_iff_eq, beq_eq_false_iff_ne, Bool.not_eq_true', Bool.not_eq_false', List.length_cons, List.length_nil, hasL]
    exact ⟨ha.1, fun h => by omega, fun _ => rfl⟩
  | k + 1, i, s, hi, h0, h1 => by
    have hlt : i < l.length := by omega
    refine G_impl_PolyValue_2 _ _ _ _ _ _ _ ?_
    simp only [r_impl_PolyValue_2, ↓w_testd, ↓w_testn, ↓w_teste, ↓w_testne, ↓w_testb, ↓w_testi, w_test, ↓w_need, ↓w_done, step0, step1, step2, has_int, has_bool, has_str, has_sl, has_slnil, has_ptr, has_nil, true_and, and_true, List.headD_cons, List.tail_cons, toInt_v, toStr_v, toBool_v, comp_tup, elems_sl, elems_nil, deref_ptr, isNil_ptr, isNil_nil, cs_agg, cs_cells, es_vec, List.getD_cons_zero, List.getD_cons_succ, List.drop_zero, hasK, decide_eq_true_eq, decide_eq_false_iff_not, bne_iff_ne, bne_eq_false_iff_eq, beq_iff_eq, beq_eq_false_iff_ne, Bool.not_eq_true', Bool.not_eq_false', List.length_cons, List.length_nil, ha.len, Int.toNat_natCast, ha.idx hlt, cells_len, cells_has, cells_0, cells_1, cells_2, cells_3]
    have hk := hok i hlt
    have hp := termV_pos hk hx.1 hy.1 hz.1
    refine ⟨ha.1, fun _ => ⟨⟨ha.1, by omega, by omega⟩, by omega, ?_⟩, fun h => by omega⟩
    have hb : sumL l x y z (k + 1) i s = if s + termV (l.getD i t0) x y z > 1000000000 then none else sumL l x y z k (i + 1) (s + termV (l.getD i t0) x y z) := rfl
    have ih := fun s' => LS_PV2 a l ha hl hok x y z hx hy hz k (i + 1) s' (by omega)
    have ht : 1 ≤ (l.getD i t0).c ∧ (l.getD i t0).c ≤ 1000000000 ∧ 0 ≤ (l.getD i t0).x ∧ (l.getD i t0).x ≤ 400 ∧ 0 ≤ (l.getD i t0).y ∧ (l.getD i t0).y ≤ 400 ∧ 0 ≤ (l.getD i t0).z ∧ (l.getD i t0).z ≤ 400 := by
      have := hk
      simp only [okT, inR, Bool.and_eq_true, decide_eq_true_eq] at this; omega
    refine wp_loop1 (LS_PV3_0 s a ha.1 (l.length : Int) (i : Int) (l.getD i t0).x (l.getD i t0).y (l.getD i t0).z x y z hx hy hz (by omega) (by omega) (by omega) (l.getD i t0).c (by omega)) ?_
    rw [fac_term hk hx.1 hy.1 hz.1]
    simp only [↓w_testd, ↓w_testn, ↓w_teste, ↓w_testne, ↓w_testb, ↓w_testi, w_test, ↓w_need, ↓w_done, step0, step1, step2, has_int, has_bool, has_str, has_sl, has_slnil, has_ptr, has_nil, true_and, and_true, List.headD_cons, List.tail_cons, toInt_v, toStr_v, toBool_v, comp_tup, elems_sl, elems_nil, deref_ptr, isNil_ptr, isNil_nil, cs_agg, cs_cells, es_vec, List.getD_cons_zero, List.getD_cons_succ, List.drop_zero, hasK, decide_eq_true_eq, decide_eq_false_iff_not, bne_iff_ne, bne_eq_false_iff_eq, beq_iff_eq, beq_eq_false_iff_ne, Bool.not_eq_true', Bool.not_eq_false', List.length_cons, List.length_nil, hasL, wrap_succ i (show i < 1000000000000 by omega)]
    rw [wrap64 _ (by omega) (by omega)]
    refine ⟨ha.1, fun h => ?_, fun h => ⟨fun h2 => ?_, fun h2 => ?_⟩⟩
    · rw [hb, if_pos (by omega)]; rfl
    · rw [hb, if_pos h2]; rfl
    · rw [hb, if_neg h2]; exact ih _ (by omega) (by omega)
theorem S_PolyValueI (a : AV) (l : List T4) (ha : TermsA a l) (hl : l.length < 1000000000000) (x y z : Int) : FSpec Try.prog n_impl_PolyValue [a, .v (.int .i64 x), .v (.int .i64 y), .v (.int .i64 z)] [] (Det (polyV l x y z)) := by
  refine F_impl_PolyValue _ _ _ _ ha.1 ?_
  unfold t_impl_PolyValue
  refine wp_det (S_isPoly a l ha hl) ?_
  simp only [↓w_testd, ↓w_testn, ↓w_teste, ↓w_testne, ↓w_testb, ↓w_testi, w_test, ↓w_need, ↓w_done, step0, step1, step2, has_int, has_bool, has_str, has_sl, has_slnil, has_ptr, has_nil, true_and, and_true, List.headD_cons, List.tail_cons, toInt_v, toStr_v, toBool_v, comp_tup, elems_sl, elems_nil, deref_ptr, isNil_ptr, isNil_nil, cs_agg, cs_cells, es_vec, List.getD_cons_zero, List.getD_cons_succ, List.drop_zero, hasK, decide_eq_true_eq, decide_eq_false_iff_not, bne_iff_ne, bne_eq_false_iff_eq, beq_iff_eq, beq_eq_false_iff_ne, Bool.not_eq_true', Bool.not_eq_false', List.length_cons, List.length_nil]
  refine ⟨fun h => by simp [polyV, h, Det], fun h1 => ?_⟩
  obtain ⟨v1, v2⟩ := valid_ok h1
  refine wp_loopB (LS_PV1 a ha.1 x y z 3 0 rfl) (fun ys o e => ?_) (fun ys o e => ?_)
  · split at e <;> cases e
    rename_i hr
    obtain ⟨h2, h3, h4⟩ := (numL_iff x y z).1 hr
    have b0 : 0 ≤ x ∧ x ≤ 100 := by simpa [inR] using h2
    have b1 : 0 ≤ y ∧ y ≤ 100 := by simpa [inR] using h3
    have b2 : 0 ≤ z ∧ z ≤ 100 := by simpa [inR] using h4
    simp only [↓w_testd, ↓w_testn, ↓w_teste, ↓w_testne, ↓w_testb, ↓w_testi, w_test, ↓w_need, ↓w_done, step0, step1, step2, has_int, has_bool, has_str, has_sl, has_slnil, has_ptr, has_nil, true_and, and_true, List.headD_cons, List.tail_cons, toInt_v, toStr_v, toBool_v, comp_tup, elems_sl, elems_nil, deref_ptr, isNil_ptr, isNil_nil, cs_agg, cs_cells, es_vec, List.getD_cons_zero, List.getD_cons_succ, List.drop_zero, hasK, decide_eq_true_eq, decide_eq_false_iff_not, bne_iff_ne, bne_eq_false_iff_eq, beq_iff_eq, beq_eq_false_iff_ne, Bool.not_eq_true', Bool.not_eq_false', List.length_cons, List.length_nil, hasL, ha.len]
    refine ⟨ha.1, ha.1, ?_⟩
    refine wp_loopB (LS_PV2 a l ha v1 v2 x y z b0 b1 b2 l.length 0 0 (by omega) (by omega) (by omega)) (fun ys o e => ?_) (fun ys o e => ?_)
    · cases hs : sumL l x y z l.length 0 0 <;> rw [hs] at e <;> cases e
      simp only [↓w_testd, ↓w_testn, ↓w_teste, ↓w_testne, ↓w_testb, ↓w_testi, w_test, ↓w_need, ↓w_done, step0, step1, step2, has_int, has_bool, has_str, has_sl, has_slnil, has_ptr, has_nil, true_and, and_true, List.headD_cons, List.tail_cons, toInt_v, toStr_v, toBool_v, comp_tup, elems_sl, elems_nil, deref_ptr, isNil_ptr, isNil_nil, cs_agg, cs_cells, es_vec, List.getD_cons_zero, List.getD_cons_succ, List.drop_zero, hasK, decide_eq_true_eq, decide_eq_false_iff_not, bne_iff_ne, bne_eq_false_iff_eq, beq_iff_eq, beq_eq_false_iff_ne, Bool.not_eq_true', Bool.not_eq_false', List.length_cons, List.length_nil, Det, polyV, h1, h2, h3, h4, hs, Bool.false_and, Bool.and_false, Bool.false_eq_true, if_false, Bool.true_and, Bool.and_true, Bool.and_self, Bool.true_or, Bool.false_or, Bool.or_true, Bool.or_false, decide_true, decide_false, not_true_eq_false, not_false_eq_true, if_true, Bool.not_true, Bool.not_false, eq_self_iff_true, and_self]
    · cases hs : sumL l x y z l.length 0 0 <;> rw [hs] at e <;> cases e
      simp only [↓w_testd, ↓w_testn, ↓w_teste, ↓w_testne, ↓w_testb, ↓w_testi, w_test, ↓w_need, ↓w_done, step0, step1, step2, has_int, has_bool, has_str, has_sl, has_slnil, has_ptr, has_nil, true_and, and_true, List.headD_cons, List.tail_cons, toInt_v, toStr_v, toBool_v, comp_tup, elems_sl, elems_nil, deref_ptr, isNil_ptr, isNil_nil, cs_agg, cs_cells, es_vec, List.getD_cons_zero, List.getD_cons_succ, List.drop_zero, hasK, decide_eq_true_eq, decide_eq_false_iff_not, bne_iff_ne, bne_eq_false_iff_eq, beq_iff_eq, beq_eq_false_iff_ne, Bool.not_eq_true', Bool.not_eq_false', List.length_cons, List.length_nil, Det, polyV, h1, h2, h3, h4, hs, Bool.false_and, Bool.and_false, Bool.false_eq_true, if_false, Bool.true_and, Bool.and_true, Bool.and_self, Bool.true_or, Bool.false_or, Bool.or_true, Bool.or_false, decide_true, decide_false, not_true_eq_false, not_false_eq_true, if_true, Bool.not_true, Bool.not_false, eq_self_iff_true, and_self]
  · split at e <;> cases e
    rename_i hr
    have : ¬ (valid l = true ∧ inR x 0 100 = true ∧ inR y 0 100 = true ∧ inR z 0 100 = true) := fun h => hr ((numL_iff x y z).2 h.2)
    simp only [↓w_testd, ↓w_testn, ↓w_teste, ↓w_testne, ↓w_testb, ↓w_testi, w_test, ↓w_need, ↓w_done, step0, step1, step2, has_int, has_bool, has_str, has_sl, has_slnil, has_ptr, has_nil, true_and, and_true, List.headD_cons, List.tail_cons, toInt_v, toStr_v, toBool_v, comp_tup, elems_sl, elems_nil, deref_ptr, isNil_ptr, isNil_nil, cs_agg, cs_cells, es_vec, List.getD_cons_zero, List.getD_cons_succ, List.drop_zero, hasK, decide_eq_true_eq, decide_eq_false_iff_not, bne_iff_ne, bne_eq_false_iff_eq, beq_iff_eq, beq_eq_false_iff_ne, Bool.not_eq_true', Bool.not_eq_false', List.length_cons, List.length_nil, Det, polyV, this, if_false]
/-! ### The law's own functions -/
theorem S_szTermS (a : AV) (l : List T4) (ha : TermsA a l) (hl : l.length < 9223372036854775808) (n : Int) (hn : 0 ≤ n ∧ n ≤ 1048576) : FSpec Try.prog n_laws_szTermS [a, .v (.int .i64 n)] [] (Det (.v (.int .i64 (if n - l.length < 0 then -1 else n - l.length)))) := by
  refine F_laws_szTermS _ _ ha.1 ?_
  simp only [t_laws_szTermS, ↓w_testd, ↓w_testn, ↓w_teste, ↓w_testne, ↓w_testb, ↓w_testi, w_test, ↓w_need, ↓w_done, step0, step1, step2, has_int, has_bool, has_str, has_sl, has_slnil, has_ptr, has_nil, true_and, and_true, List.headD_cons, List.tail_cons, toInt_v, toStr_v, toBool_v, comp_tup, elems_sl, elems_nil, deref_ptr, isNil_ptr, isNil_nil, cs_agg, cs_cells, es_vec, List.getD_cons_zero, List.getD_cons_succ, List.drop_zero, hasK, decide_eq_true_eq, decide_eq_false_iff_not, bne_iff_ne, bne_eq_false_iff_eq, beq_iff_eq, beq_eq_false_iff_ne, Bool.not_eq_true', Bool.not_eq_false', List.length_cons, List.length_nil, ha.len]
  rw [wrap64 _ (by omega) (by omega)]
  exact ⟨ha.1, fun h => by simp [Det, h], fun h => by simp [Det, h]⟩
theorem S_toTerm (t : T4) : FSpec Try.prog n_laws_toTerm [t.av] [] (Det t.av) := by
  refine F_laws_toTerm _ _ _ _ ?_
  exact ⟨rfl, rfl⟩
def zc : List AV := [.v (.int .i64 0), .v (.int .i64 0), .v (.int .i64 0), .v (.int .i64 0)]
def part (l : List T4) (i : Nat) : List (List AV) := (l.take i).map T4.cells ++ List.replicate (l.length - i) zc
theorem part_len (l : List T4) {i : Nat} (hi : i ≤ l.length) : (part l i).length = l.length := by
  simp [part]; omega
theorem part_get (l : List T4) {i : Nat} (hi : i < l.length) : (part l i).getD i [] = zc := by
  rw [part, List.getD_eq_getElem?_getD, List.getElem?_append_right (by simp; omega)]
  have h1 : (List.map T4.cells (List.take i l)).length = i := by simp; omega
  rw [h1, Nat.sub_self, show l.length - i = (l.length - (i + 1)) + 1 by omega]; rfl
theorem part_set (l : List T4) {i : Nat} (hi : i < l.length) : (part l i).set i (l.getD i t0).cells = part l (i + 1) := by
  have h1 : ((l.take i).map T4.cells).length = i := by simp; omega
  rw [part, List.set_append_right _ _ (by omega), h1, Nat.sub_self, show l.length - i = (l.length - (i + 1)) + 1 by omega, List.replicate_succ, List.set_cons_zero, part]
  have : l.take (i + 1) = l.take i ++ [l.getD i t0] := by
    rw [List.take_add_one]; simp [List.getD_eq_getElem?_getD, hi]
  rw [this]; simp
theorem LS_toTermS (a : AV) (l : List T4) (ha : TermsA a l) (hl : l.length < 1000000000000) : ∀ (k i : Nat), i + k = l.length → LS_laws_toTermS_1 [a, .v (.int .i64 (i : Int))] [.vec 4 (part l i)] (LIs 1 [] [.vec 4 (part l l.length)])
  | 0, i, hi => by
    have : i = l.length := by omega
    subst this
    refine G_laws_toTermS_1 _ _ _ ?_
    simp only [r_laws_toTermS_1, ↓w_testd, ↓w_testn, ↓w_teste, ↓w_testne, ↓w_testb, ↓w_testi, w_test, ↓w_need, ↓w_done, step0, step1, step2, has_int, has_bool, has_str, has_sl, has_slnil, has_ptr, has_nil, true_and, and_true, List.headD_cons, List.tail_cons, toInt_v, toStr_v, toBool_v, comp_tup, elems_sl, elems_nil, deref_ptr, isNil_ptr, isNil_nil, cs_agg, cs_cells, es_vec, List.getD_cons_zero, List.getD_cons_succ, List.drop_zero, hasK, decide_eq_true_eq, decide_eq_false_iff_not, bne_iff_ne, bne_eq_false_iff_eq, beq_iff_eq, beq_eq_false_iff_ne, Bool.not_eq_true', Bool.not_eq_false', List.length_cons, List.length_nil, ha.len]
    exact ⟨ha.1, ha.1, fun h => by omega, fun _ => ⟨rfl, rfl, rfl⟩⟩
  | k + 1, i, hi => by
    have hlt : i < l.length := by omega
    refine G_laws_toTermS_1 _ _ _ ?_
    simp only [r_laws_toTermS_1, ↓w_testd, ↓w_testn, ↓w_teste, ↓w_testne, ↓w_testb, ↓w_testi, w_test, ↓w_need, ↓w_done, step0, step1, step2, has_int, has_bool, has_str, has_sl, has_slnil, has_ptr, has_nil, true_and, and_true, List.headD_cons, List.tail_cons, toInt_v, toStr_v, toBool_v, comp_tup, elems_sl, elems_nil, deref_ptr, isNil_ptr, isNil_nil, cs_agg, cs_cells, es_vec, List.getD_cons_zero, List.getD_cons_succ, List.drop_zero, hasK, decide_eq_true_eq, decide_eq_false_iff_not, bne_iff_ne, bne_eq_false_iff_eq, beq_iff_eq, beq_eq_false_iff_ne, Bool.not_eq_true', Bool.not_eq_false', List.length_cons, List.length_nil, ha.len, Int.toNat_natCast, ha.idx hlt, cells_len, cells_has, cells_0, cells_1, cells_2, cells_3, part_len l (Nat.le_of_lt hlt), part_get l hlt]
    refine ⟨ha.1, ha.1, fun _ => ⟨⟨ha.1, by omega, by omega⟩, by omega, ?_⟩, fun h => by omega⟩
    refine wp_det (S_toTerm (l.getD i t0)) ?_
    have e : (AV.agg (l.getD i t0).cells) = (l.getD i t0).av := rfl
    simp only [T4.av, ↓w_testd, ↓w_testn, ↓w_teste, ↓w_testne, ↓w_testb, ↓w_testi, w_test, ↓w_need, ↓w_done, step0, step1, step2, has_int, has_bool, has_str, has_sl, has_slnil, has_ptr, has_nil, true_and, and_true, List.headD_cons, List.tail_cons, toInt_v, toStr_v, toBool_v, comp_tup, elems_sl, elems_nil, deref_ptr, isNil_ptr, isNil_nil, cs_agg, cs_cells, es_vec, List.getD_cons_zero, List.getD_cons_succ, List.drop_zero, hasK, decide_eq_true_eq, decide_eq_false_iff_not, bne_iff_ne, bne_eq_false_iff_eq, beq_iff_eq, beq_eq_false_iff_ne, Bool.not_eq_true', Bool.not_eq_false', List.length_cons, List.length_nil, cells_len, cells_has, cells_0, cells_1, cells_2, cells_3]
    refine ⟨⟨by omega, by omega⟩, ⟨by omega, by omega⟩, ?_⟩
    have es : ((((zc.set 0 (.v (.int .i64 (l.getD i t0).c))).set 1 (.v (.int .i64 (l.getD i t0).x))).set 2 (.v (.int .i64 (l.getD i t0).y))).set 3 (.v (.int .i64 (l.getD i t0).z))) = (l.getD i t0).cells := rfl
    rw [es, part_set l hlt, wrap_succ i (by omega)]
    exact LS_toTermS a l ha hl k (i + 1) (by omega)
theorem part_all (l : List T4) : part l l.length = l.map T4.cells := by simp [part]
theorem S_toTermS (a : AV) (l : List T4) (ha : TermsA a l) (hl : l.length ≤ 1048576) : FSpec Try.prog n_laws_toTermS [a] [] (Det (.sl (l.map T4.cells))) := by
  refine F_laws_toTermS _ ha.1 ?_
  simp only [t_laws_toTermS, ↓w_need, ha.len]
  refine ⟨ha.1, ⟨by omega, by omega⟩, ?_⟩
  have h0 : part l 0 = List.replicate (Int.toNat (l.length : Int)) zc := by simp [part]
  have := LS_toTermS a l ha (by omega) l.length 0 (by omega)
  rw [h0] at this
  refine wp_loop1 this ?_
  rw [part_all]
  simp only [↓w_testd, ↓w_testn, ↓w_teste, ↓w_testne, ↓w_testb, ↓w_testi, w_test, ↓w_need, ↓w_done, step0, step1, step2, has_int, has_bool, has_str, has_sl, has_slnil, has_ptr, has_nil, true_and, and_true, List.headD_cons, List.tail_cons, toInt_v, toStr_v, toBool_v, comp_tup, elems_sl, elems_nil, deref_ptr, isNil_ptr, isNil_nil, cs_agg, cs_cells, es_vec, List.getD_cons_zero, List.getD_cons_succ, List.drop_zero, hasK, decide_eq_true_eq, decide_eq_false_iff_not, bne_iff_ne, bne_eq_false_iff_eq, beq_iff_eq, beq_eq_false_iff_ne, Bool.not_eq_true', Bool.not_eq_false', List.length_cons, List.length_nil, Det]
theorem TermsA.of (l : List T4) : TermsA (.sl (l.map T4.cells)) l := ⟨(has_sl _).mpr trivial, rfl⟩
theorem S_eqTerm (a b : T4) : FSpec Try.prog n_laws_eqTerm [a.av, b.av] [] (Det (.v (.bool (decide (a = b))))) := by
  refine F_laws_eqTerm _ _ _ _ _ _ _ _ ?_
  simp only [t_laws_eqTerm, ↓w_testd, ↓w_testn, ↓w_teste, ↓w_testne, ↓w_testb, ↓w_testi, w_test, ↓w_need, ↓w_done, step0, step1, step2, has_int, has_bool, has_str, has_sl, has_slnil, has_ptr, has_nil, true_and, and_true, List.headD_cons, List.tail_cons, toInt_v, toStr_v, toBool_v, comp_tup, elems_sl, elems_nil, deref_ptr, isNil_ptr, isNil_nil, cs_agg, cs_cells, es_vec, List.getD_cons_zero, List.getD_cons_succ, List.drop_zero, hasK, decide_eq_true_eq, decide_eq_false_iff_not, bne_iff_ne, bne_eq_false_iff_eq, beq_iff_eq, beq_eq_false_iff_ne, Bool.not_eq_true', Bool.not_eq_false', List.length_cons, List.length_nil, Det]
  cases a; cases b
  simp only [T4.mk.injEq]
  repeat' (apply And.intro <;> intro _)
  all_goals simp_all
theorem LS_eqTermS (a : AV) (l : List T4) (ha : TermsA a l) (hl : l.length < 1000000000000) : ∀ (k i : Nat), i + k = l.length → LS_laws_eqTermS_1 [a, a, .v (.int .i64 (i : Int))] [] (LIs 1 [] [])
  | 0, i, hi => by
    refine G_laws_eqTermS_1 _ _ _ ?_
    simp only [r_laws_eqTermS_1, ↓w_testd, ↓w_testn, ↓w_teste, ↓w_testne, ↓w_testb, ↓w_testi, w_test, ↓w_need, ↓w_done, step0, step1, step2, has_int, has_bool, has_str, has_sl, has_slnil, has_ptr, has_nil, true_and, and_true, List.headD_cons, List.tail_cons, toInt_v, toStr_v, toBool_v, comp_tup, elems_sl, elems_nil, deref_ptr, isNil_ptr, isNil_nil, cs_agg, cs_cells, es_vec, List.getD_cons_zero, List.getD_cons_succ, List.drop_zero, hasK, decide_eq_true_eq, decide_eq_false_iff_not, bne_iff_ne, bne_eq_false_iff_eq, beq_iff_eq, beq_eq_false_iff_ne, Bool.not_eq_true', Bool.not_eq_false', List.length_cons, List.length_nil, ha.len]
    exact ⟨ha.1, ha.1, ha.1, fun h => by omega, fun _ => ⟨rfl, rfl, rfl⟩⟩
  | k + 1, i, hi => by
    have hlt : i < l.length := by omega
    refine G_laws_eqTermS_1 _ _ _ ?_
    simp only [r_laws_eqTermS_1, ↓w_testd, ↓w_testn, ↓w_teste, ↓w_testne, ↓w_testb, ↓w_testi, w_test, ↓w_need, ↓w_done, step0, step1, step2, has_int, has_bool, has_str, has_sl, has_slnil, has_ptr, has_nil, true_and, and_true, List.headD_cons, List.tail_cons, toInt_v, toStr_v, toBool_v, comp_tup, elems_sl, elems_nil, deref_ptr, isNil_ptr, isNil_nil, cs_agg, cs_cells, es_vec, List.getD_cons_zero, List.getD_cons_succ, List.drop_zero, hasK, decide_eq_true_eq, decide_eq_false_iff_not, bne_iff_ne, bne_eq_false_iff_eq, beq_iff_eq, beq_eq_false_iff_ne, Bool.not_eq_true', Bool.not_eq_false', List.length_cons, List.length_nil, ha.len, Int.toNat_natCast, ha.idx hlt, cells_len, cells_has, cells_0, cells_1, cells_2, cells_3]
    refine ⟨ha.1, ha.1, ha.1, fun _ => ⟨⟨ha.1, by omega, by omega⟩, by omega, ⟨ha.1, by omega, by omega⟩, by omega, ?_⟩, fun h => by omega⟩
    refine wp_det (S_eqTerm (l.getD i t0) (l.getD i t0)) ?_
    simp only [↓w_testd, ↓w_testn, ↓w_teste, ↓w_testne, ↓w_testb, ↓w_testi, w_test, ↓w_need, ↓w_done, step0, step1, step2, has_int, has_bool, has_str, has_sl, has_slnil, has_ptr, has_nil, true_and, and_true, List.headD_cons, List.tail_cons, toInt_v, toStr_v, toBool_v, comp_tup, elems_sl, elems_nil, deref_ptr, isNil_ptr, isNil_nil, cs_agg, cs_cells, es_vec, List.getD_cons_zero, List.getD_cons_succ, List.drop_zero, hasK, decide_eq_true_eq, decide_eq_false_iff_not, bne_iff_ne, bne_eq_false_iff_eq, beq_iff_eq, beq_eq_false_iff_ne, Bool.not_eq_true', Bool.not_eq_false', List.length_cons, List.length_nil]
    refine ⟨fun h => by simp at h, fun _ => ?_⟩
    rw [wrap_succ i (by omega)]
    exact LS_eqTermS a l ha hl k (i + 1) (by omega)
theorem S_eqTermS (a : AV) (l : List T4) (ha : TermsA a l) (hl : l.length < 1000000000000) : FSpec Try.prog n_laws_eqTermS [a, a] [] (Det (.v (.bool true))) := by
  refine F_laws_eqTermS _ _ ha.1 ha.1 ?_
  simp only [t_laws_eqTermS, ↓w_testd, ↓w_testn, ↓w_teste, ↓w_testne, ↓w_testb, ↓w_testi, w_test, ↓w_need, ↓w_done, step0, step1, step2, has_int, has_bool, has_str, has_sl, has_slnil, has_ptr, has_nil, true_and, and_true, List.headD_cons, List.tail_cons, toInt_v, toStr_v, toBool_v, comp_tup, elems_sl, elems_nil, deref_ptr, isNil_ptr, isNil_nil, cs_agg, cs_cells, es_vec, List.getD_cons_zero, List.getD_cons_succ, List.drop_zero, hasK, decide_eq_true_eq, decide_eq_false_iff_not, bne_iff_ne, bne_eq_false_iff_eq, beq_iff_eq, beq_eq_false_iff_ne, Bool.not_eq_true', Bool.not_eq_false', List.length_cons, List.length_nil, ha.len]
  refine ⟨ha.1, ha.1, fun h => absurd rfl h, fun _ => ?_⟩
  refine wp_loop1 (LS_eqTermS a l ha hl l.length 0 (by omega)) ?_
  simp only [↓w_testd, ↓w_testn, ↓w_teste, ↓w_testne, ↓w_testb, ↓w_testi, w_test, ↓w_need, ↓w_done, step0, step1, step2, has_int, has_bool, has_str, has_sl, has_slnil, has_ptr, has_nil, true_and, and_true, List.headD_cons, List.tail_cons, toInt_v, toStr_v, toBool_v, comp_tup, elems_sl, elems_nil, deref_ptr, isNil_ptr, isNil_nil, cs_agg, cs_cells, es_vec, List.getD_cons_zero, List.getD_cons_succ, List.drop_zero, hasK, decide_eq_true_eq, decide_eq_false_iff_not, bne_iff_ne, bne_eq_false_iff_eq, beq_iff_eq, beq_eq_false_iff_ne, Bool.not_eq_true', Bool.not_eq_false', List.length_cons, List.length_nil, Det]
theorem polyV_tup (l : List T4) (x y z : Int) : ∃ n b, polyV l x y z = .tup [.v (.int .i64 n), .v (.bool b)] := by
  unfold polyV
  split
  · split <;> exact ⟨_, _, rfl⟩
  · exact ⟨_, _, rfl⟩
theorem S_FnExactPolyValue (a : AV) (l : List T4) (ha : TermsA a l) (hl0 : l.length < 9223372036854775808) (x y z : Int) : FSpec Try.prog n_laws_FnExactPolyValue [a, .v (.int .i64 x), .v (.int .i64 y), .v (.int .i64 z)] [] (Det (.v (.bool true))) := by
  refine F_laws_FnExactPolyValue _ _ _ _ ha.1 ?_
  unfold t_laws_FnExactPolyValue
  refine wp_det (S_szTermS a l ha hl0 _ (by omega)) ?_
  simp only [↓w_testd, ↓w_testn, ↓w_teste, ↓w_testne, ↓w_testb, ↓w_testi, w_test, ↓w_need, ↓w_done, step0, step1, step2, has_int, has_bool, has_str, has_sl, has_slnil, has_ptr, has_nil, true_and, and_true, List.headD_cons, List.tail_cons, toInt_v, toStr_v, toBool_v, comp_tup, elems_sl, elems_nil, deref_ptr, isNil_ptr, isNil_nil, cs_agg, cs_cells, es_vec, List.getD_cons_zero, List.getD_cons_succ, List.drop_zero, hasK, decide_eq_true_eq, decide_eq_false_iff_not, bne_iff_ne, bne_eq_false_iff_eq, beq_iff_eq, beq_eq_false_iff_ne, Bool.not_eq_true', Bool.not_eq_false', List.length_cons, List.length_nil]
  refine ⟨fun _ => by simp [Det], fun h => ?_⟩
  have hb : l.length ≤ 1048576 := by
    by_cases hc : (1048576 : Int) - l.length < 0
    · rw [if_pos hc] at h; omega
    · omega
  have hl : l.length < 1000000000000 := by omega
  refine wp_det (S_toTermS a l ha hb) ?_
  simp only [↓w_testd, ↓w_testn, ↓w_teste, ↓w_testne, ↓w_testb, ↓w_testi, w_test, ↓w_need, ↓w_done, step0, step1, step2, has_int, has_bool, has_str, has_sl, has_slnil, has_ptr, has_nil, true_and, and_true, List.headD_cons, List.tail_cons, toInt_v, toStr_v, toBool_v, comp_tup, elems_sl, elems_nil, deref_ptr, isNil_ptr, isNil_nil, cs_agg, cs_cells, es_vec, List.getD_cons_zero, List.getD_cons_succ, List.drop_zero, hasK, decide_eq_true_eq, decide_eq_false_iff_not, bne_iff_ne, bne_eq_false_iff_eq, beq_iff_eq, beq_eq_false_iff_ne, Bool.not_eq_true', Bool.not_eq_false', List.length_cons, List.length_nil]
  refine wp_det (S_PolyValueS _ l (.of l) hl x y z) ?_
  obtain ⟨n, b, e⟩ := polyV_tup l x y z
  rw [e]
  simp only [↓w_testd, ↓w_testn, ↓w_teste, ↓w_testne, ↓w_testb, ↓w_testi, w_test, ↓w_need, ↓w_done, step0, step1, step2, has_int, has_bool, has_str, has_sl, has_slnil, has_ptr, has_nil, true_and, and_true, List.headD_cons, List.tail_cons, toInt_v, toStr_v, toBool_v, comp_tup, elems_sl, elems_nil, deref_ptr, isNil_ptr, isNil_nil, cs_agg, cs_cells, es_vec, List.getD_cons_zero, List.getD_cons_succ, List.drop_zero, hasK, decide_eq_true_eq, decide_eq_false_iff_not, bne_iff_ne, bne_eq_false_iff_eq, beq_iff_eq, beq_eq_false_iff_ne, Bool.not_eq_true', Bool.not_eq_false', List.length_cons, List.length_nil]
  refine wp_det (S_toTermS a l ha hb) ?_
  simp only [↓w_testd, ↓w_testn, ↓w_teste, ↓w_testne, ↓w_testb, ↓w_testi, w_test, ↓w_need, ↓w_done, step0, step1, step2, has_int, has_bool, has_str, has_sl, has_slnil, has_ptr, has_nil, true_and, and_true, List.headD_cons, List.tail_cons, toInt_v, toStr_v, toBool_v, comp_tup, elems_sl, elems_nil, deref_ptr, isNil_ptr, isNil_nil, cs_agg, cs_cells, es_vec, List.getD_cons_zero, List.getD_cons_succ, List.drop_zero, hasK, decide_eq_true_eq, decide_eq_false_iff_not, bne_iff_ne, bne_eq_false_iff_eq, beq_iff_eq, beq_eq_false_iff_ne, Bool.not_eq_true', Bool.not_eq_false', List.length_cons, List.length_nil]
  refine wp_det (S_PolyValueI _ l (.of l) hl x y z) ?_
  rw [e]
  simp only [↓w_testd, ↓w_testn, ↓w_teste, ↓w_testne, ↓w_testb, ↓w_testi, w_test, ↓w_need, ↓w_done, step0, step1, step2, has_int, has_bool, has_str, has_sl, has_slnil, has_ptr, has_nil, true_and, and_true, List.headD_cons, List.tail_cons, toInt_v, toStr_v, toBool_v, comp_tup, elems_sl, elems_nil, deref_ptr, isNil_ptr, isNil_nil, cs_agg, cs_cells, es_vec, List.getD_cons_zero, List.getD_cons_succ, List.drop_zero, hasK, decide_eq_true_eq, decide_eq_false_iff_not, bne_iff_ne, bne_eq_false_iff_eq, beq_iff_eq, beq_eq_false_iff_ne, Bool.not_eq_true', Bool.not_eq_false', List.length_cons, List.length_nil]
  refine ⟨fun h => absurd rfl h, fun _ => ⟨fun h => by simp at h, fun _ => ?_⟩⟩
  refine wp_det (S_toTermS a l ha hb) ?_
  simp only [↓w_testd, ↓w_testn, ↓w_teste, ↓w_testne, ↓w_testb, ↓w_testi, w_test, ↓w_need, ↓w_done, step0, step1, step2, has_int, has_bool, has_str, has_sl, has_slnil, has_ptr, has_nil, true_and, and_true, List.headD_cons, List.tail_cons, toInt_v, toStr_v, toBool_v, comp_tup, elems_sl, elems_nil, deref_ptr, isNil_ptr, isNil_nil, cs_agg, cs_cells, es_vec, List.getD_cons_zero, List.getD_cons_succ, List.drop_zero, hasK, decide_eq_true_eq, decide_eq_false_iff_not, bne_iff_ne, bne_eq_false_iff_eq, beq_iff_eq, beq_eq_false_iff_ne, Bool.not_eq_true', Bool.not_eq_false', List.length_cons, List.length_nil]
  refine wp_det (S_eqTermS _ l (.of l) hl) ?_
  simp [wpT, has_bool, AV.toBool, Det]
end Go.Proofs.Trees
