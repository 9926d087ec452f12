/-
  Part of a proof: laws over values.
-/
import Derived.Test.YtomcnpoljpicgaaP3
set_option linter.unusedVariables false
set_option linter.unusedSimpArgs false
namespace Go.Proofs.Trees
open Go Go.VL
def clip (n : Int) : Int := if 1000000001 < n then 1000000001 else n
def pi : Nat → Int → Int → Int
  | 0, t, n => t
  | k + 1, t, n => if clip (t * n) = 0 then 0 else pi k (clip (t * n)) n
theorem LS_PV4 (s : Int) (i : Nat) (p : Int) (a : AV) (ha : LK.sl.has a) (len j p0 p1 p2 x y z n : Int) (hi : (i = 0 ∧ n = x) ∨ (i = 1 ∧ n = y) ∨ (i = 2 ∧ n = z)) (hn : 0 ≤ n ∧ n ≤ 100) (hp : p ≤ 400) :
    ∀ (k : Nat) (t c : Int), 0 ≤ c → (p - c).toNat = k → 0 ≤ t → t ≤ 1000000001 →
    LS_impl_PolyValue_4 [.v (.int .i64 s), .v (.int .i64 t), .v (.int .i64 (i : Int)), .v (.int .i64 p), a, .v (.int .i64 len), .v (.int .i64 j), .agg [.v (.int .i64 p0), .v (.int .i64 p1), .v (.int .i64 p2)], .v (.int .i64 (i : Int)), .v (.int .i64 p), .v (.int .i64 c)] [.cells [.v (.int .i64 x), .v (.int .i64 y), .v (.int .i64 z)]]
      (LIs 1 [.v (.int .i64 s), .v (.int .i64 (pi k t n)), .v (.int .i64 (i : Int)), .v (.int .i64 p), a, .v (.int .i64 len), .v (.int .i64 j), .agg [.v (.int .i64 p0), .v (.int .i64 p1), .v (.int .i64 p2)], .v (.int .i64 (i : Int))] [.cells [.v (.int .i64 x), .v (.int .i64 y), .v (.int .i64 z)]])
  | 0, t, c, h0, hk, ht0, ht1 => by
    refine G_impl_PolyValue_4 _ _ _ _ _ _ _ _ _ _ _ _ _ _ _ _ ?_
    simp only [r_impl_PolyValue_4, ↓w_testd, ↓w_testn, ↓w_teste, ↓w_testne, ↓w_testb, ↓w_testi, w_test, ↓w_need, ↓w_done, step0, step1, step2, has_int, has_bool, has_str, has_sl, has_slnil, has_ptr, has_nil, true_and, and_true, List.headD_cons, List.tail_cons, toInt_v, toStr_v, toBool_v, comp_tup, elems_sl, elems_nil, deref_ptr, isNil_ptr, isNil_nil, cs_agg, cs_cells, es_vec, List.getD_cons_zero, List.getD_cons_succ, List.drop_zero, hasK, decide_eq_true_eq, decide_eq_false_iff_not, bne_iff_ne, bne_eq_false_iff_eq, beq_iff_eq, beq_eq_false_iff_ne, Bool.not_eq_true', Bool.not_eq_false', List.length_cons, List.length_nil, hasL]
    exact ⟨ha, fun h => by omega, fun _ => by simp [LIs, pi]⟩
  | k + 1, t, c, h0, hk, ht0, ht1 => by
    have ih := fun t' => LS_PV4 s i p a ha len j p0 p1 p2 x y z n hi hn hp k t' (c + 1) (by omega) (by omega)
    have hb : 0 ≤ t * n := Int.mul_nonneg (by omega) hn.1
    have hc : t * n ≤ 1000000001 * 100 := Int.mul_le_mul ht1 hn.2 hn.1 (by omega)
    have hcl : (if 1000000001 < t * n then 1000000001 else t * n) = clip (t * n) := rfl
    have hg : ([.v (.int .i64 x), .v (.int .i64 y), .v (.int .i64 z)] : List AV).getD (0 + i * 1) .any = .v (.int .i64 n) := by rcases hi with ⟨rfl, rfl⟩ | ⟨rfl, rfl⟩ | ⟨rfl, rfl⟩ <;> rfl
    refine G_impl_PolyValue_4 _ _ _ _ _ _ _ _ _ _ _ _ _ _ _ _ ?_
    simp only [r_impl_PolyValue_4, ↓w_testd, ↓w_testn, ↓w_teste, ↓w_testne, ↓w_testb, ↓w_testi, w_test, ↓w_need, ↓w_done, step0, step1, step2, has_int, has_bool, has_str, has_sl, has_slnil, has_ptr, has_nil, true_and, and_true, List.headD_cons, List.tail_cons, toInt_v, toStr_v, toBool_v, comp_tup, elems_sl, elems_nil, deref_ptr, isNil_ptr, isNil_nil, cs_agg, cs_cells, es_vec, List.getD_cons_zero, List.getD_cons_succ, List.drop_zero, hasK, decide_eq_true_eq, decide_eq_false_iff_not, bne_iff_ne, bne_eq_false_iff_eq, beq_iff_eq, beq_eq_false_iff_ne, Bool.not_eq_true', Bool.not_eq_false', List.length_cons, List.length_nil, hasL, Int.toNat_natCast, hg, wrap64 (t * n) (by omega) (by omega), hcl, wrap64 (c + 1) (by omega) (by omega)]
    refine ⟨ha, fun _ => ⟨by omega, by omega, fun h => ?_, fun h => ?_⟩, fun h => by omega⟩
    · simp [LIs, pi, h]
    · have hp : pi (k + 1) t n = pi k (clip (t * n)) n := by simp only [pi, h, if_false]
      rw [hp]
      exact ih _ (by unfold clip; split <;> omega) (by unfold clip; split <;> omega)
/-- One factor after another. -/
def fac (t n p : Int) : Int := if n = 0 ∧ p > 0 then 0 else pi p.toNat t n
theorem pi_pos {n : Int} (hn : 0 ≤ n) : ∀ (k : Nat) {t : Int}, 0 ≤ t → t ≤ 1000000001 → 0 ≤ pi k t n ∧ pi k t n ≤ 1000000001
  | 0, t, h, h' => ⟨h, h'⟩
  | k + 1, t, h, h' => by
    have := Int.mul_nonneg h hn
    unfold pi
    split
    · omega
    · exact pi_pos hn k (by unfold clip; split <;> omega) (by unfold clip; split <;> omega)
theorem fac_pos {t n p : Int} (hn : 0 ≤ n) (h : 0 ≤ t) (h' : t ≤ 1000000001) : 0 ≤ fac t n p ∧ fac t n p ≤ 1000000001 := by
  unfold fac
  split
  · omega
  · exact pi_pos hn _ h h'
theorem LS_PV3_3 (s : Int) (a : AV) (ha : LK.sl.has a) (len j p0 p1 p2 x y z : Int) (t : Int) : LS_impl_PolyValue_3 [.v (.int .i64 s), .v (.int .i64 t), a, .v (.int .i64 len), .v (.int .i64 j), .agg [.v (.int .i64 p0), .v (.int .i64 p1), .v (.int .i64 p2)], .v (.int .i64 ((3 : Nat) : Int))] [.cells [.v (.int .i64 x), .v (.int .i64 y), .v (.int .i64 z)]]
      (LIs 1 [.v (.int .i64 s), .v (.int .i64 t), a, .v (.int .i64 len), .v (.int .i64 j)] [.cells [.v (.int .i64 x), .v (.int .i64 y), .v (.int .i64 z)]]) := by
  refine G_impl_PolyValue_3 _ _ _ _ _ _ _ _ _ _ _ _ ?_
  simp only [r_impl_PolyValue_3, ↓w_testd, ↓w_testn, ↓w_teste, ↓w_testne, ↓w_testb, ↓w_testi, w_test, ↓w_need, ↓w_done, step0, step1, step2, has_int, has_bool, has_str, has_sl, has_slnil, has_ptr, has_nil, true_and, and_true, List.headD_cons, List.tail_cons, toInt_v, toStr_v, toBool_v, comp_tup, elems_sl, elems_nil, deref_ptr, isNil_ptr, isNil_nil, cs_agg, cs_cells, es_vec, List.getD_cons_zero, List.getD_cons_succ, List.drop_zero, hasK, decide_eq_true_eq, decide_eq_false_iff_not, bne_iff_ne, bne_eq_false_iff_eq, beq_iff_eq, beq_eq_false_iff_ne, Bool.not_eq_true', Bool.not_eq_false', List.length_cons, List.length_nil, hasL]
  exact ⟨ha, fun h => by omega, fun _ => by simp [LIs]⟩
theorem LS_PV3 (s : Int) (a : AV) (ha : LK.sl.has a) (len j p0 p1 p2 x y z : Int) (hx : 0 ≤ x ∧ x ≤ 100) (hy : 0 ≤ y ∧ y ≤ 100) (hz : 0 ≤ z ∧ z ≤ 100) (h0 : p0 ≤ 400) (h1 : p1 ≤ 400) (h2 : p2 ≤ 400) (i : Nat) (n p : Int) (hi : (i = 0 ∧ n = x ∧ p = p0) ∨ (i = 1 ∧ n = y ∧ p = p1) ∨ (i = 2 ∧ n = z ∧ p = p2)) (t : Int) (ht : 0 ≤ t ∧ t ≤ 1000000001) {r : Int}
    (hr : LS_impl_PolyValue_3 [.v (.int .i64 s), .v (.int .i64 (fac t n p)), a, .v (.int .i64 len), .v (.int .i64 j), .agg [.v (.int .i64 p0), .v (.int .i64 p1), .v (.int .i64 p2)], .v (.int .i64 ((i + 1 : Nat) : Int))] [.cells [.v (.int .i64 x), .v (.int .i64 y), .v (.int .i64 z)]]
      (LIs 1 [.v (.int .i64 s), .v (.int .i64 r), a, .v (.int .i64 len), .v (.int .i64 j)] [.cells [.v (.int .i64 x), .v (.int .i64 y), .v (.int .i64 z)]])) :
    LS_impl_PolyValue_3 [.v (.int .i64 s), .v (.int .i64 t), a, .v (.int .i64 len), .v (.int .i64 j), .agg [.v (.int .i64 p0), .v (.int .i64 p1), .v (.int .i64 p2)], .v (.int .i64 (i : Int))] [.cells [.v (.int .i64 x), .v (.int .i64 y), .v (.int .i64 z)]]
      (LIs 1 [.v (.int .i64 s), .v (.int .i64 r), a, .v (.int .i64 len), .v (.int .i64 j)] [.cells [.v (.int .i64 x), .v (.int .i64 y), .v (.int .i64 z)]]) := by
  have hn : 0 ≤ n ∧ n ≤ 100 := by omega
  have hp : p ≤ 400 := by omega
  have hg : ([.v (.int .i64 x), .v (.int .i64 y), .v (.int .i64 z)] : List AV).getD (0 + i * 1) .any = .v (.int .i64 n) := by rcases hi with ⟨rfl, rfl, rfl⟩ | ⟨rfl, rfl, rfl⟩ | ⟨rfl, rfl, rfl⟩ <;> rfl
  have hg2 : ([.v (.int .i64 p0), .v (.int .i64 p1), .v (.int .i64 p2)] : List AV).getD (i * 1) .any = .v (.int .i64 p) := by rcases hi with ⟨rfl, rfl, rfl⟩ | ⟨rfl, rfl, rfl⟩ | ⟨rfl, rfl, rfl⟩ <;> rfl
  refine G_impl_PolyValue_3 _ _ _ _ _ _ _ _ _ _ _ _ ?_
  simp only [r_impl_PolyValue_3, ↓w_testd, ↓w_testn, ↓w_teste, ↓w_testne, ↓w_testb, ↓w_testi, w_test, ↓w_need, ↓w_done, step0, step1, step2, has_int, has_bool, has_str, has_sl, has_slnil, has_ptr, has_nil, true_and, and_true, List.headD_cons, List.tail_cons, toInt_v, toStr_v, toBool_v, comp_tup, elems_sl, elems_nil, deref_ptr, isNil_ptr, isNil_nil, cs_agg, cs_cells, es_vec, List.getD_cons_zero, List.getD_cons_succ, List.drop_zero, hasK, decide_eq_true_eq, decide_eq_false_iff_not, bne_iff_ne, bne_eq_false_iff_eq, beq_iff_eq, beq_eq_false_iff_ne, Bool.not_eq_true', Bool.not_eq_false', List.length_cons, List.length_nil, hasL, Int.toNat_natCast, hg2]
  refine ⟨ha, fun _ => ⟨⟨by omega, by omega⟩, ?_⟩, fun h => by omega⟩
  refine wp_loop1 (LS_PV4 s i p a ha len j p0 p1 p2 x y z n (by omega) hn hp p.toNat t 0 (by omega) (by omega) ht.1 ht.2) ?_
  simp only [↓w_testd, ↓w_testn, ↓w_teste, ↓w_testne, ↓w_testb, ↓w_testi, w_test, ↓w_need, ↓w_done, step0, step1, step2, has_int, has_bool, has_str, has_sl, has_slnil, has_ptr, has_nil, true_and, and_true, List.headD_cons, List.tail_cons, toInt_v, toStr_v, toBool_v, comp_tup, elems_sl, elems_nil, deref_ptr, isNil_ptr, isNil_nil, cs_agg, cs_cells, es_vec, List.getD_cons_zero, List.getD_cons_succ, List.drop_zero, hasK, decide_eq_true_eq, decide_eq_false_iff_not, bne_iff_ne, bne_eq_false_iff_eq, beq_iff_eq, beq_eq_false_iff_ne, Bool.not_eq_true', Bool.not_eq_false', List.length_cons, List.length_nil, hasL, Int.toNat_natCast, hg, List.getD_cons_zero, List.getD_cons_succ, wrap_succ i (by omega)]
  refine ⟨ha, by omega, by omega, fun e => ⟨fun e2 => ?_, fun e2 => ?_⟩, fun e => ?_⟩
  · have : fac t n p = 0 := by unfold fac; rw [if_pos ⟨e, e2⟩]
    rw [this] at hr
    exact hr
  · have : fac t n p = pi p.toNat t n := by unfold fac; rw [if_neg (by omega)]
    rw [this] at hr
    exact hr
  · have : fac t n p = pi p.toNat t n := by unfold fac; rw [if_neg (by omega)]
    rw [this] at hr
    exact hr
theorem LS_PV3_0 (s : Int) (a : AV) (ha : LK.sl.has a) (len j p0 p1 p2 x y z : Int) (hx : 0 ≤ x ∧ x ≤ 100) (hy : 0 ≤ y ∧ y ≤ 100) (hz : 0 ≤ z ∧ z ≤ 100) (h0 : p0 ≤ 400) (h1 : p1 ≤ 400) (h2 : p2 ≤ 400) (t : Int) (ht : 0 ≤ t ∧ t ≤ 1000000001) : LS_impl_PolyValue_3 [.v (.int .i64 s), .v (.int .i64 t), a, .v (.int .i64 len), .v (.int .i64 j), .agg [.v (.int .i64 p0), .v (.int .i64 p1), .v (.int .i64 p2)], .v (.int .i64 0)] [.cells [.v (.int .i64 x), .v (.int .i64 y), .v (.int .i64 z)]]
      (LIs 1 [.v (.int .i64 s), .v (.int .i64 (fac (fac (fac t x p0) y p1) z p2)), a, .v (.int .i64 len), .v (.int .i64 j)] [.cells [.v (.int .i64 x), .v (.int .i64 y), .v (.int .i64 z)]]) := by
  have f1 := fac_pos (p := p0) hx.1 ht.1 ht.2
  have f2 := fac_pos (p := p1) hy.1 f1.1 f1.2
  exact LS_PV3 s a ha len j p0 p1 p2 x y z hx hy hz h0 h1 h2 0 x p0 (by omega) t ht
    (LS_PV3 s a ha len j p0 p1 p2 x y z hx hy hz h0 h1 h2 1 y p1 (by omega) _ f1
      (LS_PV3 s a ha len j p0 p1 p2 x y z hx hy hz h0 h1 h2 2 z p2 (by omega) _ f2 (LS_PV3_3 s a ha len j p0 p1 p2 x y z _)))
/-! ### Both ways to a term's value agree -/
theorem pi_zero (n : Int) : ∀ k, pi k 0 n = 0
  | 0 => rfl
  | k + 1 => by simp [pi, clip]
theorem pi_top {n : Int} (hn : 1 ≤ n) : ∀ k, pi k 1000000001 n = 1000000001
  | 0 => rfl
  | k + 1 => by
    have : 1000000001 * 1 ≤ 1000000001 * n := Int.mul_le_mul_of_nonneg_left hn (by omega)
    have e : clip (1000000001 * n) = 1000000001 := by unfold clip; split <;> omega
    unfold pi
    rw [e, pi_top hn k]; simp
theorem pw_zero (n : Int) : ∀ k, pw k 0 n = 0
  | 0 => rfl
  | k + 1 => by simp [pw]
theorem pw_big {n o : Int} (h : 1000000000 < o) : ∀ k, pw k o n = o
  | 0 => rfl
  | k + 1 => by simp [pw]; omega
theorem pi_pw {n : Int} (hn : 1 ≤ n) : ∀ (k : Nat) {t : Int}, 0 ≤ t → t ≤ 1000000001 → pi k t n = clip (pw k t n)
  | 0, t, h, h' => by show t = clip t; unfold clip; rw [if_neg (by omega)]
  | k + 1, t, h, h' => by
    by_cases h0 : t = 0
    · subst h0; rw [pi_zero, pw_zero]; rfl
    · by_cases hb : t = 1000000001
      · subst hb; rw [pi_top hn, pw_big (by omega)]; rfl
      · have hm : t * 1 ≤ t * n := Int.mul_le_mul_of_nonneg_left hn h
        have hc : ¬ clip (t * n) = 0 := by unfold clip; split <;> omega
        simp only [pi, pw, hc, if_false]
        rw [if_pos (by omega)]
        by_cases hl : t * n ≤ 1000000001
        · have : clip (t * n) = t * n := by unfold clip; rw [if_neg (by omega)]
          rw [this]; exact pi_pw hn k (by omega) hl
        · have : clip (t * n) = 1000000001 := by unfold clip; rw [if_pos (by omega)]
          rw [this, pi_top hn, pw_big (by omega), this]
theorem fac_power {t n p : Int} (hn : 0 ≤ n) (hp : 0 ≤ p) (h : 0 ≤ t) (h' : t ≤ 1000000001) (hc : ¬ (n = 0 ∧ p > 0)) : fac t n p = power t n p := by
  unfold fac
  rw [if_neg hc]
  by_cases h0 : n = 0
  · have : p = 0 := by omega
    subst this
    simp only [Int.toNat_zero, pi, power, pw]
    split <;> omega
  · exact pi_pw (by omega) _ h h'
theorem fac_zero (n p : Int) : fac 0 n p = 0 := by
  unfold fac
  split
  · rfl
  · exact pi_zero _ _
theorem fac_term {t : T4} {x y z : Int} (ht : okT t = true) (hx : 0 ≤ x) (hy : 0 ≤ y) (hz : 0 ≤ z) : fac (fac (fac t.c x t.x) y t.y) z t.z = termV t x y z := by
  have hb : 1 ≤ t.c ∧ t.c ≤ 1000000000 ∧ 0 ≤ t.x ∧ t.x ≤ 400 ∧ 0 ≤ t.y ∧ t.y ≤ 400 ∧ 0 ≤ t.z ∧ t.z ≤ 400 := by simp [okT, inR] at ht; omega
  unfold termV
  by_cases h1 : x = 0 ∧ t.x > 0
  · rw [if_pos (.inl h1)]
    have : fac t.c x t.x = 0 := by unfold fac; rw [if_pos h1]
    rw [this, fac_zero, fac_zero]
  · rw [fac_power hx (by omega) (by omega) (by omega) h1]
    have q1 := power_nonneg (o := t.c) (n := x) (t := t.x) hx (by omega)
    by_cases h2 : y = 0 ∧ t.y > 0
    · rw [if_pos (.inr (.inl h2))]
      have : ∀ u, fac u y t.y = 0 := fun u => by unfold fac; rw [if_pos h2]
      rw [this, fac_zero]
    · rw [fac_power hy (by omega) q1.1 q1.2 h2]
      have q2 := power_nonneg (o := power t.c x t.x) (n := y) (t := t.y) hy q1.1
      by_cases h3 : z = 0 ∧ t.z > 0
      · rw [if_pos (.inr (.inr h3))]
        unfold fac; rw [if_pos h3]
      · rw [fac_power hz (by omega) q2.1 q2.2 h3, if_neg (by omega)]
end Go.Proofs.Trees
