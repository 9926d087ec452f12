/-
  Part of a proof: laws over values.
-/
import Derived.Test.YtomcnpoljpicgaaTrees1
set_option linter.unusedVariables false
set_option linter.unusedSimpArgs false
namespace Go.Proofs.Trees
open Go Go.VL
structure T4 where
  c : Int
  x : Int
  y : Int
  z : Int
  deriving DecidableEq
def t0 : T4 := ⟨0, 0, 0, 0⟩
def T4.cells (t : T4) : List AV := [.v (.int .i64 t.c), .v (.int .i64 t.x), .v (.int .i64 t.y), .v (.int .i64 t.z)]
def T4.av (t : T4) : AV := .agg t.cells
def TermsA (a : AV) (l : List T4) : Prop := LK.sl.has a ∧ a.elems = l.map T4.cells
theorem TermsA.len {a : AV} {l : List T4} (h : TermsA a l) : a.elems.length = l.length := by rw [h.2, List.length_map]
theorem map_idx (l : List T4) {i : Nat} (hi : i < l.length) : (l.map T4.cells).getD i [] = (l.getD i t0).cells := by
  simp [List.getD_eq_getElem?_getD, hi]
theorem TermsA.idx {a : AV} {l : List T4} (h : TermsA a l) {i : Nat} (hi : i < l.length) : a.elems.getD i [] = (l.getD i t0).cells := by
  rw [h.2, map_idx l hi]
theorem cells_len (t : T4) : t.cells.length = 4 := rfl
theorem cells_has (t : T4) : hasL [.int .i64, .int .i64, .int .i64, .int .i64] t.cells 0 = True := by simp [hasL, T4.cells, has_int]
theorem cells_0 (t : T4) : (t.cells.getD 0 .any).toInt = t.c := rfl
theorem cells_1 (t : T4) : (t.cells.getD 1 .any).toInt = t.x := rfl
theorem cells_2 (t : T4) : (t.cells.getD 2 .any).toInt = t.y := rfl
theorem cells_3 (t : T4) : (t.cells.getD 3 .any).toInt = t.z := rfl
theorem wrap_succ (i : Nat) (h : i < 1000000000000) : IntKind.wrap .i64 ((i : Int) + 1) = ((i + 1 : Nat) : Int) := by rw [wrap64] <;> omega
theorem wrap_pred (i : Nat) (h0 : 0 < i) (h : i < 1000000000000) : IntKind.wrap .i64 ((i : Int) - 1) = ((i - 1 : Nat) : Int) := by rw [wrap64] <;> omega

/-! ### Small functions -/
def inR (v lo hi : Int) : Bool := decide (lo ≤ v ∧ v ≤ hi)
theorem S_l6In (v lo hi : Int) : FSpec Try.prog n_spec_l6In [.v (.int .i64 v), .v (.int .i64 lo), .v (.int .i64 hi)] [] (Det (.v (.bool (inR v lo hi)))) := by
  refine F_spec_l6In _ _ _ ?_
  simp only [t_spec_l6In, ↓w_testd, ↓w_testn, ↓w_teste, ↓w_testne, ↓w_testb, ↓w_testi, w_test, ↓w_need, ↓w_done, step0, step1, step2, has_int, has_bool, has_str, has_sl, has_slnil, has_ptr, has_nil, true_and, and_true, List.headD_cons, List.tail_cons, toInt_v, toStr_v, toBool_v, comp_tup, elems_sl, elems_nil, deref_ptr, isNil_ptr, isNil_nil, cs_agg, cs_cells, es_vec, List.getD_cons_zero, List.getD_cons_succ, List.drop_zero, hasK, decide_eq_true_eq, decide_eq_false_iff_not, bne_iff_ne, bne_eq_false_iff_eq, beq_iff_eq, beq_eq_false_iff_ne, Bool.not_eq_true', Bool.not_eq_false', List.length_cons, List.length_nil, Det, inR]
  constructor <;> intro h <;> simp at h <;> simp [h]
  omega
def before (a b : T4) : Bool := if a.x ≠ b.x then decide (a.x > b.x) else if a.y ≠ b.y then decide (a.y > b.y) else decide (a.z > b.z)
theorem S_l6pBefore (a b : T4) : FSpec Try.prog n_spec_l6pBefore [a.av, b.av] [] (Det (.v (.bool (before a b)))) := by
  refine F_spec_l6pBefore _ _ _ _ _ _ _ _ ?_
  simp only [t_spec_l6pBefore, ↓w_testd, ↓w_testn, ↓w_teste, ↓w_testne, ↓w_testb, ↓w_testi, w_test, ↓w_need, ↓w_done, step0, step1, step2, has_int, has_bool, has_str, has_sl, has_slnil, has_ptr, has_nil, true_and, and_true, List.headD_cons, List.tail_cons, toInt_v, toStr_v, toBool_v, comp_tup, elems_sl, elems_nil, deref_ptr, isNil_ptr, isNil_nil, cs_agg, cs_cells, es_vec, List.getD_cons_zero, List.getD_cons_succ, List.drop_zero, hasK, decide_eq_true_eq, decide_eq_false_iff_not, bne_iff_ne, bne_eq_false_iff_eq, beq_iff_eq, beq_eq_false_iff_ne, Bool.not_eq_true', Bool.not_eq_false', List.length_cons, List.length_nil, Det, before]
  refine ⟨fun h => ?_, fun h => ⟨fun h2 => ?_, fun h2 => ?_⟩⟩ <;> simp [*]
def pw : Nat → Int → Int → Int
  | 0, o, n => o
  | k + 1, o, n => if 0 < o ∧ o ≤ 1000000000 then pw k (o * n) n else o
theorem LS_l6pPower (n : Int) (hn : 0 ≤ n ∧ n ≤ 100) (t : Int) (ht : t ≤ 400) : ∀ (k : Nat) (o i : Int), 0 ≤ i → (t - i).toNat = k → LS_spec_l6pPower_1 [.v (.int .i64 o), .v (.int .i64 n), .v (.int .i64 t), .v (.int .i64 i)] [] (LIs 1 [.v (.int .i64 (pw k o n))] [])
  | 0, o, i, h0, hk => by
    refine G_spec_l6pPower_1 _ _ _ _ ?_
    simp only [r_spec_l6pPower_1, ↓w_testd, ↓w_testn, ↓w_teste, ↓w_testne, ↓w_testb, ↓w_testi, w_test, ↓w_need, ↓w_done, step0, step1, step2, has_int, has_bool, has_str, has_sl, has_slnil, has_ptr, has_nil, true_and, and_true, List.headD_cons, List.tail_cons, toInt_v, toStr_v, toBool_v, comp_tup, elems_sl, elems_nil, deref_ptr, isNil_ptr, isNil_nil, cs_agg, cs_cells, es_vec, List.getD_cons_zero, List.getD_cons_succ, List.drop_zero, hasK, decide_eq_true_eq, decide_eq_false_iff_not, bne_iff_ne, bne_eq_false_iff_eq, beq_iff_eq, beq_eq_false_iff_ne, Bool.not_eq_true', Bool.not_eq_false', List.length_cons, List.length_nil, LIs]
    refine ⟨fun h => ?_, fun h => ?_⟩
    · omega
    · simp [pw]
  | k + 1, o, i, h0, hk => by
    refine G_spec_l6pPower_1 _ _ _ _ ?_
    simp only [r_spec_l6pPower_1, ↓w_testd, ↓w_testn, ↓w_teste, ↓w_testne, ↓w_testb, ↓w_testi, w_test, ↓w_need, ↓w_done, step0, step1, step2, has_int, has_bool, has_str, has_sl, has_slnil, has_ptr, has_nil, true_and, and_true, List.headD_cons, List.tail_cons, toInt_v, toStr_v, toBool_v, comp_tup, elems_sl, elems_nil, deref_ptr, isNil_ptr, isNil_nil, cs_agg, cs_cells, es_vec, List.getD_cons_zero, List.getD_cons_succ, List.drop_zero, hasK, decide_eq_true_eq, decide_eq_false_iff_not, bne_iff_ne, bne_eq_false_iff_eq, beq_iff_eq, beq_eq_false_iff_ne, Bool.not_eq_true', Bool.not_eq_false', List.length_cons, List.length_nil]
    refine ⟨fun h => ⟨fun h2 => ⟨fun h3 => ?_, fun h3 => ?_⟩, fun h2 => ?_⟩, fun h => ?_⟩
    · have hb : 0 ≤ o * n := Int.mul_nonneg (by omega) hn.1
      have hc : o * n ≤ 1000000000 * 100 := Int.mul_le_mul h3 hn.2 hn.1 (by omega)
      rw [wrap64 (o * n) (by omega) (by omega), wrap64 (i + 1) (by omega) (by omega)]
      have h2' : 0 < o := h2
      simp only [pw, h2', h3, and_self, if_true]
      exact LS_l6pPower n hn t ht k (o * n) (i + 1) (by omega) (by omega)
    · simp [LIs, pw]; omega
    · simp [LIs, pw]; omega
    · omega
def power (o n t : Int) : Int := if 1000000001 < pw t.toNat o n then 1000000001 else pw t.toNat o n
theorem S_l6pPower (o n t : Int) (hn : 0 ≤ n ∧ n ≤ 100) (ht : t ≤ 400) : FSpec Try.prog n_spec_l6pPower [.v (.int .i64 o), .v (.int .i64 n), .v (.int .i64 t)] [] (Det (.v (.int .i64 (power o n t)))) := by
  refine F_spec_l6pPower _ _ _ ?_
  unfold t_spec_l6pPower
  refine wp_loop1 (LS_l6pPower n hn t ht t.toNat o 0 (by omega) (by omega)) ?_
  simp [wpT, has_int, AV.toInt, Det, power]
theorem S_isNaN (a : Int) : FSpec Try.prog n_cmp_isNaN_int [.v (.int .i64 a)] [] (Det (.v (.bool false))) := by
  refine F_cmp_isNaN_int _ ?_
  simp [t_cmp_isNaN_int, wpT, Det]
def cmpI (a b : Int) : Int := if a < b then -1 else if a > b then 1 else 0
theorem S_Compare (a b : Int) : FSpec Try.prog n_cmp_Compare_int [.v (.int .i64 a), .v (.int .i64 b)] [] (Det (.v (.int .i64 (cmpI a b)))) := by
  refine F_cmp_Compare_int _ _ ?_
  unfold t_cmp_Compare_int
  refine wp_det (S_isNaN a) ?_
  simp only [↓w_testd, ↓w_testn, ↓w_teste, ↓w_testne, ↓w_testb, ↓w_testi, w_test, ↓w_need, ↓w_done, step0, step1, step2, has_int, has_bool, has_str, has_sl, has_slnil, has_ptr, has_nil, true_and, and_true, List.headD_cons, List.tail_cons, toInt_v, toStr_v, toBool_v, comp_tup, elems_sl, elems_nil, deref_ptr, isNil_ptr, isNil_nil, cs_agg, cs_cells, es_vec, List.getD_cons_zero, List.getD_cons_succ, List.drop_zero, hasK, decide_eq_true_eq, decide_eq_false_iff_not, bne_iff_ne, bne_eq_false_iff_eq, beq_iff_eq, beq_eq_false_iff_ne, Bool.not_eq_true', Bool.not_eq_false', List.length_cons, List.length_nil]
  refine wp_det (S_isNaN b) ?_
  simp only [↓w_testd, ↓w_testn, ↓w_teste, ↓w_testne, ↓w_testb, ↓w_testi, w_test, ↓w_need, ↓w_done, step0, step1, step2, has_int, has_bool, has_str, has_sl, has_slnil, has_ptr, has_nil, true_and, and_true, List.headD_cons, List.tail_cons, toInt_v, toStr_v, toBool_v, comp_tup, elems_sl, elems_nil, deref_ptr, isNil_ptr, isNil_nil, cs_agg, cs_cells, es_vec, List.getD_cons_zero, List.getD_cons_succ, List.drop_zero, hasK, decide_eq_true_eq, decide_eq_false_iff_not, bne_iff_ne, bne_eq_false_iff_eq, beq_iff_eq, beq_eq_false_iff_ne, Bool.not_eq_true', Bool.not_eq_false', List.length_cons, List.length_nil, Det, cmpI]
  refine ⟨fun h => (by cases h), fun _ => ⟨fun h => (by cases h), fun _ => ⟨fun h => ?_, fun h => ⟨fun h2 => ?_, fun h2 => ?_⟩⟩⟩⟩ <;> simp [*]
def orL : List Int → Int
  | [] => 0
  | a :: r => if a ≠ 0 then a else orL r
def intCells (l : List Int) : List (List AV) := l.map fun n => [.v (.int .i64 n)]
theorem LS_Or (l : List Int) (hl : l.length < 1000) : ∀ (r : List Int) (i : Nat), l.drop i = r → i ≤ l.length → LS_cmp_Or_int_1 [.v (.int .i64 0), .sl (intCells l), .v (.int .i64 (l.length : Int)), .v (.int .i64 (i : Int))] [] (LBy (if orL r = 0 then (1, [.v (.int .i64 0)], []) else (2, [.v (.int .i64 (orL r))], [])))
  | [], i, hr, hi => by
    have : l.length ≤ i := by simpa using hr
    refine G_cmp_Or_int_1 _ _ _ _ ?_
    simp only [r_cmp_Or_int_1, ↓w_testd, ↓w_testn, ↓w_teste, ↓w_testne, ↓w_testb, ↓w_testi, w_test, ↓w_need, ↓w_done, step0, step1, step2, has_int, has_bool, has_str, has_sl, has_slnil, has_ptr, has_nil, true_and, and_true, List.headD_cons, List.tail_cons, toInt_v, toStr_v, toBool_v, comp_tup, elems_sl, elems_nil, deref_ptr, isNil_ptr, isNil_nil, cs_agg, cs_cells, es_vec, List.getD_cons_zero, List.getD_cons_succ, List.drop_zero, hasK, decide_eq_true_eq, decide_eq_false_iff_not, bne_iff_ne, bne_eq_false_iff_eq, beq_iff_eq, beq_eq_false_iff_ne, Bool.not_eq_true', Bool.not_eq_false', List.length_cons, List.length_nil]
    refine ⟨fun h => by omega, fun h => by simp [LBy, orL]⟩
  | a :: r, i, hr, hi => by
    have hlt : i < l.length := by
      rcases Nat.lt_or_ge i l.length with h | h
      · exact h
      · rw [List.drop_eq_nil_of_le h] at hr; cases hr
    have hg : (intCells l).getD i [] = [.v (.int .i64 a)] := by
      have : l[i]? = some a := by rw [← List.head?_drop, hr]; rfl
      simp [intCells, List.getD_eq_getElem?_getD, this]
    have hd : l.drop (i + 1) = r := by rw [← List.tail_drop, hr]; rfl
    refine G_cmp_Or_int_1 _ _ _ _ ?_
    have hlen : (intCells l).length = l.length := by simp [intCells]
    simp only [r_cmp_Or_int_1, ↓w_testd, ↓w_testn, ↓w_teste, ↓w_testne, ↓w_testb, ↓w_testi, w_test, ↓w_need, ↓w_done, step0, step1, step2, has_int, has_bool, has_str, has_sl, has_slnil, has_ptr, has_nil, true_and, and_true, List.headD_cons, List.tail_cons, toInt_v, toStr_v, toBool_v, comp_tup, elems_sl, elems_nil, deref_ptr, isNil_ptr, isNil_nil, cs_agg, cs_cells, es_vec, List.getD_cons_zero, List.getD_cons_succ, List.drop_zero, hasK, decide_eq_true_eq, decide_eq_false_iff_not, bne_iff_ne, bne_eq_false_iff_eq, beq_iff_eq, beq_eq_false_iff_ne, Bool.not_eq_true', Bool.not_eq_false', List.length_cons, List.length_nil, Int.toNat_natCast, hg, hlen]
    refine ⟨fun h => ⟨⟨by omega, by omega⟩, by omega, fun h2 => ?_, fun h2 => ?_⟩, fun h => by omega⟩
    · simp [LBy, orL, h2]
    · rw [wrap_succ i (by omega)]
      simp only [orL, h2, ne_eq, not_true_eq_false, if_false]
      exact LS_Or l hl r (i + 1) hd (by omega)
theorem S_Or (l : List Int) (hl : l.length < 1000) : FSpec Try.prog n_cmp_Or_int [.sl (intCells l)] [] (Det (.v (.int .i64 (orL l)))) := by
  refine F_cmp_Or_int _ (has_sl _ ▸ trivial) ?_
  simp only [t_cmp_Or_int, ↓w_testd, ↓w_testn, ↓w_teste, ↓w_testne, ↓w_testb, ↓w_testi, w_test, ↓w_need, ↓w_done, step0, step1, step2, has_int, has_bool, has_str, has_sl, has_slnil, has_ptr, has_nil, true_and, and_true, List.headD_cons, List.tail_cons, toInt_v, toStr_v, toBool_v, comp_tup, elems_sl, elems_nil, deref_ptr, isNil_ptr, isNil_nil, cs_agg, cs_cells, es_vec, List.getD_cons_zero, List.getD_cons_succ, List.drop_zero, hasK, decide_eq_true_eq, decide_eq_false_iff_not, bne_iff_ne, bne_eq_false_iff_eq, beq_iff_eq, beq_eq_false_iff_ne, Bool.not_eq_true', Bool.not_eq_false', List.length_cons, List.length_nil]
  have hlen : (intCells l).length = l.length := by simp [intCells]
  rw [hlen]
  refine wp_loopB (LS_Or l hl l 0 rfl (by omega)) (fun ys o e => ?_) (fun ys o e => ?_)
  · split at e <;> cases e
    simp_all [↓w_testd, ↓w_testn, ↓w_teste, ↓w_testne, ↓w_testb, ↓w_testi, w_test, ↓w_need, ↓w_done, step0, step1, step2, has_int, has_bool, has_str, has_sl, has_slnil, has_ptr, has_nil, true_and, and_true, List.headD_cons, List.tail_cons, toInt_v, toStr_v, toBool_v, comp_tup, elems_sl, elems_nil, deref_ptr, isNil_ptr, isNil_nil, cs_agg, cs_cells, es_vec, List.getD_cons_zero, List.getD_cons_succ, List.drop_zero, hasK, decide_eq_true_eq, decide_eq_false_iff_not, bne_iff_ne, bne_eq_false_iff_eq, beq_iff_eq, beq_eq_false_iff_ne, Bool.not_eq_true', Bool.not_eq_false', List.length_cons, List.length_nil, Det]
  · split at e <;> cases e
    simp_all [↓w_testd, ↓w_testn, ↓w_teste, ↓w_testne, ↓w_testb, ↓w_testi, w_test, ↓w_need, ↓w_done, step0, step1, step2, has_int, has_bool, has_str, has_sl, has_slnil, has_ptr, has_nil, true_and, and_true, List.headD_cons, List.tail_cons, toInt_v, toStr_v, toBool_v, comp_tup, elems_sl, elems_nil, deref_ptr, isNil_ptr, isNil_nil, cs_agg, cs_cells, es_vec, List.getD_cons_zero, List.getD_cons_succ, List.drop_zero, hasK, decide_eq_true_eq, decide_eq_false_iff_not, bne_iff_ne, bne_eq_false_iff_eq, beq_iff_eq, beq_eq_false_iff_ne, Bool.not_eq_true', Bool.not_eq_false', List.length_cons, List.length_nil, Det]
def cmpT (a b : T4) : Int := orL [cmpI b.x a.x, cmpI b.y a.y, cmpI b.z a.z]
theorem S_compareTerms (a b : T4) : FSpec Try.prog n_impl_compareTerms [a.av, b.av] [] (Det (.v (.int .i64 (cmpT a b)))) := by
  refine F_impl_compareTerms _ _ _ _ _ _ _ _ ?_
  unfold t_impl_compareTerms
  refine wp_det (S_Compare _ _) ?_
  simp only [↓w_testd, ↓w_testn, ↓w_teste, ↓w_testne, ↓w_testb, ↓w_testi, w_test, ↓w_need, ↓w_done, step0, step1, step2, has_int, has_bool, has_str, has_sl, has_slnil, has_ptr, has_nil, true_and, and_true, List.headD_cons, List.tail_cons, toInt_v, toStr_v, toBool_v, comp_tup, elems_sl, elems_nil, deref_ptr, isNil_ptr, isNil_nil, cs_agg, cs_cells, es_vec, List.getD_cons_zero, List.getD_cons_succ, List.drop_zero, hasK, decide_eq_true_eq, decide_eq_false_iff_not, bne_iff_ne, bne_eq_false_iff_eq, beq_iff_eq, beq_eq_false_iff_ne, Bool.not_eq_true', Bool.not_eq_false', List.length_cons, List.length_nil]
  refine wp_det (S_Compare _ _) ?_
  simp only [↓w_testd, ↓w_testn, ↓w_teste, ↓w_testne, ↓w_testb, ↓w_testi, w_test, ↓w_need, ↓w_done, step0, step1, step2, has_int, has_bool, has_str, has_sl, has_slnil, has_ptr, has_nil, true_and, and_true, List.headD_cons, List.tail_cons, toInt_v, toStr_v, toBool_v, comp_tup, elems_sl, elems_nil, deref_ptr, isNil_ptr, isNil_nil, cs_agg, cs_cells, es_vec, List.getD_cons_zero, List.getD_cons_succ, List.drop_zero, hasK, decide_eq_true_eq, decide_eq_false_iff_not, bne_iff_ne, bne_eq_false_iff_eq, beq_iff_eq, beq_eq_false_iff_ne, Bool.not_eq_true', Bool.not_eq_false', List.length_cons, List.length_nil]
  refine wp_det (S_Compare _ _) ?_
  simp only [↓w_testd, ↓w_testn, ↓w_teste, ↓w_testne, ↓w_testb, ↓w_testi, w_test, ↓w_need, ↓w_done, step0, step1, step2, has_int, has_bool, has_str, has_sl, has_slnil, has_ptr, has_nil, true_and, and_true, List.headD_cons, List.tail_cons, toInt_v, toStr_v, toBool_v, comp_tup, elems_sl, elems_nil, deref_ptr, isNil_ptr, isNil_nil, cs_agg, cs_cells, es_vec, List.getD_cons_zero, List.getD_cons_succ, List.drop_zero, hasK, decide_eq_true_eq, decide_eq_false_iff_not, bne_iff_ne, bne_eq_false_iff_eq, beq_iff_eq, beq_eq_false_iff_ne, Bool.not_eq_true', Bool.not_eq_false', List.length_cons, List.length_nil]
  refine wp_det (S_Or [cmpI b.x a.x, cmpI b.y a.y, cmpI b.z a.z] (by simp)) ?_
  simp only [↓w_testd, ↓w_testn, ↓w_teste, ↓w_testne, ↓w_testb, ↓w_testi, w_test, ↓w_need, ↓w_done, step0, step1, step2, has_int, has_bool, has_str, has_sl, has_slnil, has_ptr, has_nil, true_and, and_true, List.headD_cons, List.tail_cons, toInt_v, toStr_v, toBool_v, comp_tup, elems_sl, elems_nil, deref_ptr, isNil_ptr, isNil_nil, cs_agg, cs_cells, es_vec, List.getD_cons_zero, List.getD_cons_succ, List.drop_zero, hasK, decide_eq_true_eq, decide_eq_false_iff_not, bne_iff_ne, bne_eq_false_iff_eq, beq_iff_eq, beq_eq_false_iff_ne, Bool.not_eq_true', Bool.not_eq_false', List.length_cons, List.length_nil, Det, cmpT]
theorem cmpT_before (a b : T4) : before a b = decide (cmpT a b < 0) := by
  simp only [before, cmpT, orL, cmpI]
  rcases Int.lt_trichotomy a.x b.x with h1 | h1 | h1 <;> rcases Int.lt_trichotomy a.y b.y with h2 | h2 | h2 <;> rcases Int.lt_trichotomy a.z b.z with h3 | h3 | h3 <;>
    simp [h1, h2, h3, Int.ne_of_lt, Int.ne_of_gt, Int.lt_asymm] <;> omega
end Go.Proofs.Trees
