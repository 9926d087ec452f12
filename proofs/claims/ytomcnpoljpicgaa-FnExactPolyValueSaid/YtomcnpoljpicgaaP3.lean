/-
  Part of a proof: laws over values.
-/
import Derived.Test.YtomcnpoljpicgaaP2
set_option linter.unusedVariables false
set_option linter.unusedSimpArgs false
namespace Go.Proofs.Trees
open Go Go.VL
/-! ### Values -/
theorem pw_nonneg {n : Int} (hn : 0 ≤ n) : ∀ (k : Nat) {o : Int}, 0 ≤ o → 0 ≤ pw k o n
  | 0, o, h => h
  | k + 1, o, h => by
    unfold pw
    split
    · exact pw_nonneg hn k (Int.mul_nonneg h hn)
    · exact h
theorem power_nonneg {o n t : Int} (hn : 0 ≤ n) (h : 0 ≤ o) : 0 ≤ power o n t ∧ power o n t ≤ 1000000001 := by
  have := pw_nonneg hn t.toNat h
  unfold power
  split <;> omega
def termV (t : T4) (x y z : Int) : Int := if (x = 0 ∧ t.x > 0) ∨ (y = 0 ∧ t.y > 0) ∨ (z = 0 ∧ t.z > 0) then 0 else power (power (power t.c x t.x) y t.y) z t.z
theorem termV_pos {t : T4} {x y z : Int} (ht : okT t = true) (hx : 0 ≤ x) (hy : 0 ≤ y) (hz : 0 ≤ z) : 0 ≤ termV t x y z ∧ termV t x y z ≤ 1000000001 := by
  unfold termV
  split
  · omega
  · have hc : 0 ≤ t.c := by simp [okT, inR] at ht; omega
    exact power_nonneg hz (power_nonneg hy (power_nonneg hx hc).1).1
def sumL (l : List T4) (x y z : Int) : Nat → Nat → Int → Option Int
  | 0, _, s => some s
  | k + 1, i, s => if s + termV (l.getD i t0) x y z > 1000000000 then none else sumL l x y z k (i + 1) (s + termV (l.getD i t0) x y z)
def sumR : Option Int → Nat × List AV × List Ob
  | some r => (1, [.v (.int .i64 r)], [])
  | none => (2, [.v (.int .i64 0), .v (.bool false)], [])
theorem valL_ok {l : List T4} : ∀ (k i : Nat), valL l k i = true → ∀ j, i ≤ j → j < i + k → okT (l.getD j t0) = true
  | 0, i, h, j, h1, h2 => by omega
  | k + 1, i, h, j, h1, h2 => by
    simp only [valL, Bool.and_eq_true] at h
    by_cases e : j = i
    · subst e; exact h.1.1
    · exact valL_ok k (i + 1) h.2 j (by omega) (by omega)
theorem valid_ok {l : List T4} (h : valid l = true) : l.length ≤ 60 ∧ ∀ j, j < l.length → okT (l.getD j t0) = true := by
  simp only [valid, Bool.and_eq_true, decide_eq_true_eq] at h
  exact ⟨h.2, fun j hj => valL_ok l.length 0 h.1 j (by omega) (by omega)⟩
theorem LS_PolyValueS (a : AV) (l : List T4) (ha : TermsA a l) (hl : l.length ≤ 60) (hok : ∀ j, j < l.length → okT (l.getD j t0) = true) (x y z : Int) (hx : 0 ≤ x ∧ x ≤ 100) (hy : 0 ≤ y ∧ y ≤ 100) (hz : 0 ≤ z ∧ z ≤ 100) :
    ∀ (k i : Nat) (s : Int), i + k = l.length → 0 ≤ s → s ≤ 1000000000 → LS_spec_PolyValue_1 [a, .v (.int .i64 x), .v (.int .i64 y), .v (.int .i64 z), .v (.int .i64 s), .v (.int .i64 (i : Int))] [] (LBy (sumR (sumL l x y z k i s)))
  | 0, i, s, hi, h0, h1 => by
    refine G_spec_PolyValue_1 _ _ _ _ _ _ ?_
    simp only [r_spec_PolyValue_1, ↓w_testd, ↓w_testn, ↓w_teste, ↓w_testne, ↓w_testb, ↓w_testi, w_test, ↓w_need, ↓w_done, step0, step1, step2, has_int, has_bool, has_str, has_sl, has_slnil, has_ptr, has_nil, true_and, and_true, List.headD_cons, List.tail_cons, toInt_v, toStr_v, toBool_v, comp_tup, elems_sl, elems_nil, deref_ptr, isNil_ptr, isNil_nil, cs_agg, cs_cells, es_vec, List.getD_cons_zero, List.getD_cons_succ, List.drop_zero, hasK, decide_eq_true_eq, decide_eq_false_iff_not, bne_iff_ne, bne_eq_false_iff_eq, beq_iff_eq, beq_eq_false_iff_ne, Bool.not_eq_true', Bool.not_eq_false', List.length_cons, List.length_nil, ha.len]
    exact ⟨ha.1, ha.1, fun h => by omega, fun _ => rfl⟩
  | k + 1, i, s, hi, h0, h1 => by
    have hlt : i < l.length := by omega
    refine G_spec_PolyValue_1 _ _ _ _ _ _ ?_
    simp only [r_spec_PolyValue_1, ↓w_testd, ↓w_testn, ↓w_teste, ↓w_testne, ↓w_testb, ↓w_testi, w_test, ↓w_need, ↓w_done, step0, step1, step2, has_int, has_bool, has_str, has_sl, has_slnil, has_ptr, has_nil, true_and, and_true, List.headD_cons, List.tail_cons, toInt_v, toStr_v, toBool_v, comp_tup, elems_sl, elems_nil, deref_ptr, isNil_ptr, isNil_nil, cs_agg, cs_cells, es_vec, List.getD_cons_zero, List.getD_cons_succ, List.drop_zero, hasK, decide_eq_true_eq, decide_eq_false_iff_not, bne_iff_ne, bne_eq_false_iff_eq, beq_iff_eq, beq_eq_false_iff_ne, Bool.not_eq_true', Bool.not_eq_false', List.length_cons, List.length_nil, ha.len, Int.toNat_natCast, ha.idx hlt, cells_len, cells_has, cells_0, cells_1, cells_2, cells_3, wrap_succ i (show i < 1000000000000 by omega)]
    have hk := hok i hlt
    have hp := termV_pos hk hx.1 hy.1 hz.1
    refine ⟨ha.1, ha.1, fun _ => ⟨⟨ha.1, by omega, by omega⟩, by omega, ?_⟩, fun h => by omega⟩
    have hb : sumL l x y z (k + 1) i s = if s + termV (l.getD i t0) x y z > 1000000000 then none else sumL l x y z k (i + 1) (s + termV (l.getD i t0) x y z) := rfl
    have ih := fun s' => LS_PolyValueS a l ha hl hok x y z hx hy hz k (i + 1) s' (by omega)
    generalize l.getD i t0 = t at *
    have ht : 1 ≤ t.c ∧ t.c ≤ 1000000000 ∧ 0 ≤ t.x ∧ t.x ≤ 400 ∧ 0 ≤ t.y ∧ t.y ≤ 400 ∧ 0 ≤ t.z ∧ t.z ≤ 400 := by simp [okT, inR] at hk; omega
    have skip : ((x = 0 ∧ t.x > 0) ∨ (y = 0 ∧ t.y > 0) ∨ (z = 0 ∧ t.z > 0)) → LS_spec_PolyValue_1 [a, .v (.int .i64 x), .v (.int .i64 y), .v (.int .i64 z), .v (.int .i64 s), .v (.int .i64 ((i + 1 : Nat) : Int))] [] (LBy (sumR (sumL l x y z (k + 1) i s))) := fun hc => by
      have : termV t x y z = 0 := by unfold termV; rw [if_pos hc]
      rw [hb, this, Int.add_zero, if_neg (by omega)]
      exact ih s h0 h1
    have ev : ¬ ((x = 0 ∧ t.x > 0) ∨ (y = 0 ∧ t.y > 0) ∨ (z = 0 ∧ t.z > 0)) → power (power (power t.c x t.x) y t.y) z t.z = termV t x y z := fun hc => by unfold termV; rw [if_neg hc]
    repeat' (apply And.intro <;> intro _)
    all_goals first
      | exact skip (by omega)
      | (refine wp_det (S_l6pPower _ _ _ hx (by omega)) ?_
         simp only [↓w_testd, ↓w_testn, ↓w_teste, ↓w_testne, ↓w_testb, ↓w_testi, w_test, ↓w_need, ↓w_done, step0, step1, step2, has_int, has_bool, has_str, has_sl, has_slnil, has_ptr, has_nil, true_and, and_true, List.headD_cons, List.tail_cons, toInt_v, toStr_v, toBool_v, comp_tup, elems_sl, elems_nil, deref_ptr, isNil_ptr, isNil_nil, cs_agg, cs_cells, es_vec, List.getD_cons_zero, List.getD_cons_succ, List.drop_zero, hasK, decide_eq_true_eq, decide_eq_false_iff_not, bne_iff_ne, bne_eq_false_iff_eq, beq_iff_eq, beq_eq_false_iff_ne, Bool.not_eq_true', Bool.not_eq_false', List.length_cons, List.length_nil]
         refine wp_det (S_l6pPower _ _ _ hy (by omega)) ?_
         simp only [↓w_testd, ↓w_testn, ↓w_teste, ↓w_testne, ↓w_testb, ↓w_testi, w_test, ↓w_need, ↓w_done, step0, step1, step2, has_int, has_bool, has_str, has_sl, has_slnil, has_ptr, has_nil, true_and, and_true, List.headD_cons, List.tail_cons, toInt_v, toStr_v, toBool_v, comp_tup, elems_sl, elems_nil, deref_ptr, isNil_ptr, isNil_nil, cs_agg, cs_cells, es_vec, List.getD_cons_zero, List.getD_cons_succ, List.drop_zero, hasK, decide_eq_true_eq, decide_eq_false_iff_not, bne_iff_ne, bne_eq_false_iff_eq, beq_iff_eq, beq_eq_false_iff_ne, Bool.not_eq_true', Bool.not_eq_false', List.length_cons, List.length_nil]
         refine wp_det (S_l6pPower _ _ _ hz (by omega)) ?_
         simp only [↓w_testd, ↓w_testn, ↓w_teste, ↓w_testne, ↓w_testb, ↓w_testi, w_test, ↓w_need, ↓w_done, step0, step1, step2, has_int, has_bool, has_str, has_sl, has_slnil, has_ptr, has_nil, true_and, and_true, List.headD_cons, List.tail_cons, toInt_v, toStr_v, toBool_v, comp_tup, elems_sl, elems_nil, deref_ptr, isNil_ptr, isNil_nil, cs_agg, cs_cells, es_vec, List.getD_cons_zero, List.getD_cons_succ, List.drop_zero, hasK, decide_eq_true_eq, decide_eq_false_iff_not, bne_iff_ne, bne_eq_false_iff_eq, beq_iff_eq, beq_eq_false_iff_ne, Bool.not_eq_true', Bool.not_eq_false', List.length_cons, List.length_nil]
         rw [ev (by omega), wrap64 _ (by omega) (by omega)]
         refine ⟨fun h => ?_, fun h => ?_⟩
         · rw [hb, if_pos h]; rfl
         · rw [hb, if_neg h]; exact ih _ (by omega) (by omega))
def polyV (l : List T4) (x y z : Int) : AV :=
  if valid l = true ∧ inR x 0 100 = true ∧ inR y 0 100 = true ∧ inR z 0 100 = true then
    match sumL l x y z l.length 0 0 with
    | some r => .tup [.v (.int .i64 r), .v (.bool true)]
    | none => .tup [.v (.int .i64 0), .v (.bool false)]
  else .tup [.v (.int .i64 0), .v (.bool false)]
theorem S_PolyValueS (a : AV) (l : List T4) (ha : TermsA a l) (hl : l.length < 1000000000000) (x y z : Int) : FSpec Try.prog n_spec_PolyValue [a, .v (.int .i64 x), .v (.int .i64 y), .v (.int .i64 z)] [] (Det (polyV l x y z)) := by
  refine F_spec_PolyValue _ _ _ _ ha.1 ?_
  unfold t_spec_PolyValue
  refine wp_det (S_l6pValid a l ha hl) ?_
  simp only [↓w_testd, ↓w_testn, ↓w_teste, ↓w_testne, ↓w_testb, ↓w_testi, w_test, ↓w_need, ↓w_done, step0, step1, step2, has_int, has_bool, has_str, has_sl, has_slnil, has_ptr, has_nil, true_and, and_true, List.headD_cons, List.tail_cons, toInt_v, toStr_v, toBool_v, comp_tup, elems_sl, elems_nil, deref_ptr, isNil_ptr, isNil_nil, cs_agg, cs_cells, es_vec, List.getD_cons_zero, List.getD_cons_succ, List.drop_zero, hasK, decide_eq_true_eq, decide_eq_false_iff_not, bne_iff_ne, bne_eq_false_iff_eq, beq_iff_eq, beq_eq_false_iff_ne, Bool.not_eq_true', Bool.not_eq_false', List.length_cons, List.length_nil]
  refine ⟨fun h => by simp [polyV, h, Det], fun h1 => ?_⟩
  refine wp_det (S_l6In _ _ _) ?_
  simp only [↓w_testd, ↓w_testn, ↓w_teste, ↓w_testne, ↓w_testb, ↓w_testi, w_test, ↓w_need, ↓w_done, step0, step1, step2, has_int, has_bool, has_str, has_sl, has_slnil, has_ptr, has_nil, true_and, and_true, List.headD_cons, List.tail_cons, toInt_v, toStr_v, toBool_v, comp_tup, elems_sl, elems_nil, deref_ptr, isNil_ptr, isNil_nil, cs_agg, cs_cells, es_vec, List.getD_cons_zero, List.getD_cons_succ, List.drop_zero, hasK, decide_eq_true_eq, decide_eq_false_iff_not, bne_iff_ne, bne_eq_false_iff_eq, beq_iff_eq, beq_eq_false_iff_ne, Bool.not_eq_true', Bool.not_eq_false', List.length_cons, List.length_nil]
  refine ⟨fun h => by simp [polyV, h, Det], fun h2 => ?_⟩
  refine wp_det (S_l6In _ _ _) ?_
  simp only [↓w_testd, ↓w_testn, ↓w_teste, ↓w_testne, ↓w_testb, ↓w_testi, w_test, ↓w_need, ↓w_done, step0, step1, step2, has_int, has_bool, has_str, has_sl, has_slnil, has_ptr, has_nil, true_and, and_true, List.headD_cons, List.tail_cons, toInt_v, toStr_v, toBool_v, comp_tup, elems_sl, elems_nil, deref_ptr, isNil_ptr, isNil_nil, cs_agg, cs_cells, es_vec, List.getD_cons_zero, List.getD_cons_succ, List.drop_zero, hasK, decide_eq_true_eq, decide_eq_false_iff_not, bne_iff_ne, bne_eq_false_iff_eq, beq_iff_eq, beq_eq_false_iff_ne, Bool.not_eq_true', Bool.not_eq_false', List.length_cons, List.length_nil]
  refine ⟨fun h => by simp [polyV, h, Det], fun h3 => ?_⟩
  refine wp_det (S_l6In _ _ _) ?_
  simp only [↓w_testd, ↓w_testn, ↓w_teste, ↓w_testne, ↓w_testb, ↓w_testi, w_test, ↓w_need, ↓w_done, step0, step1, step2, has_int, has_bool, has_str, has_sl, has_slnil, has_ptr, has_nil, true_and, and_true, List.headD_cons, List.tail_cons, toInt_v, toStr_v, toBool_v, comp_tup, elems_sl, elems_nil, deref_ptr, isNil_ptr, isNil_nil, cs_agg, cs_cells, es_vec, List.getD_cons_zero, List.getD_cons_succ, List.drop_zero, hasK, decide_eq_true_eq, decide_eq_false_iff_not, bne_iff_ne, bne_eq_false_iff_eq, beq_iff_eq, beq_eq_false_iff_ne, Bool.not_eq_true', Bool.not_eq_false', List.length_cons, List.length_nil]
  refine ⟨fun h => by simp [polyV, h, Det], fun h4 => ?_⟩
  obtain ⟨v1, v2⟩ := valid_ok h1
  refine wp_loopB (LS_PolyValueS a l ha v1 v2 x y z (by simpa [inR] using h2) (by simpa [inR] using h3) (by simpa [inR] using h4) l.length 0 0 (by omega) (by omega) (by omega)) (fun ys o e => ?_) (fun ys o e => ?_)
  · cases hs : sumL l x y z l.length 0 0 <;> rw [hs] at e <;> cases e
    simp only [↓w_testd, ↓w_testn, ↓w_teste, ↓w_testne, ↓w_testb, ↓w_testi, w_test, ↓w_need, ↓w_done, step0, step1, step2, has_int, has_bool, has_str, has_sl, has_slnil, has_ptr, has_nil, true_and, and_true, List.headD_cons, List.tail_cons, toInt_v, toStr_v, toBool_v, comp_tup, elems_sl, elems_nil, deref_ptr, isNil_ptr, isNil_nil, cs_agg, cs_cells, es_vec, List.getD_cons_zero, List.getD_cons_succ, List.drop_zero, hasK, decide_eq_true_eq, decide_eq_false_iff_not, bne_iff_ne, bne_eq_false_iff_eq, beq_iff_eq, beq_eq_false_iff_ne, Bool.not_eq_true', Bool.not_eq_false', List.length_cons, List.length_nil, Det, polyV, h1, h2, h3, h4, hs, Bool.false_and, Bool.and_false, Bool.false_eq_true, if_false, Bool.true_and, Bool.and_true, Bool.and_self, Bool.true_or, Bool.false_or, Bool.or_true, Bool.or_false, decide_true, decide_false, not_true_eq_false, not_false_eq_true, if_true, Bool.not_true, Bool.not_false, eq_self_iff_true, and_self]
  · cases hs : sumL l x y z l.length 0 0 <;> rw [hs] at e <;> cases e
    simp only [↓w_testd, ↓w_testn, ↓w_teste, ↓w_testne, ↓w_testb, ↓w_testi, w_test, ↓w_need, ↓w_done, step0, step1, step2, has_int, has_bool, has_str, has_sl, has_slnil, has_ptr, has_nil, true_and, and_true, List.headD_cons, List.tail_cons, toInt_v, toStr_v, toBool_v, comp_tup, elems_sl, elems_nil, deref_ptr, isNil_ptr, isNil_nil, cs_agg, cs_cells, es_vec, List.getD_cons_zero, List.getD_cons_succ, List.drop_zero, hasK, decide_eq_true_eq, decide_eq_false_iff_not, bne_iff_ne, bne_eq_false_iff_eq, beq_iff_eq, beq_eq_false_iff_ne, Bool.not_eq_true', Bool.not_eq_false', List.length_cons, List.length_nil, Det, polyV, h1, h2, h3, h4, hs, Bool.false_and, Bool.and_false, Bool.false_eq_true, if_false, Bool.true_and, Bool.and_true, Bool.and_self, Bool.true_or, Bool.false_or, Bool.or_true, Bool.or_false, decide_true, decide_false, not_true_eq_false, not_false_eq_true, if_true, Bool.not_true, Bool.not_false, eq_self_iff_true, and_self]
end Go.Proofs.Trees
