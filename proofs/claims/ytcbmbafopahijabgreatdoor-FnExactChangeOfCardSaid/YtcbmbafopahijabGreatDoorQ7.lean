/-
  Part of a proof: laws over values.
-/
import Derived.Test.YtcbmbafopahijabGreatDoorQ6
set_option linter.unusedVariables false
set_option linter.unusedSimpArgs false
namespace Go.Proofs.Trees
open Go Go.VL
/-! ### Free names -/
/-- Found, or not. -/
def FoundR (p : Prop) : Nat → List AV → List Ob → Prop := fun t ys o => (t = 1 ∧ ¬ p ∧ ys = [] ∧ o = []) ∨ (t = 2 ∧ p ∧ ∃ j : Nat, ys = [.v (.int .i64 (j : Int))] ∧ o = [])
theorem LS_Index (l : List (List UInt8)) (a : AV) (ha : StrsA a l) (s : List UInt8) (hl : l.length < 1000000) : ∀ (k i : Nat), i + k = l.length → s ∉ l.take i → LS_slices_Index_string_string_1 [a, .v (.string (mk s)), .v (.int .i64 (l.length : Int)), .v (.int .i64 (i : Int))] []
    (FoundR (s ∈ l))
  | 0, i, hi, hn => by
    refine G_slices_Index_string_string_1 _ _ _ _ ?_
    simp only [r_slices_Index_string_string_1, ↓zp, zs, hasK]
    have : l.take i = l := List.take_of_length_le (by omega)
    rw [this] at hn
    exact ⟨ha.1, fun h => by omega, fun _ => .inl ⟨rfl, hn, rfl, rfl⟩⟩
  | k + 1, i, hi, hn => by
    have hlt : i < l.length := by omega
    refine G_slices_Index_string_string_1 _ _ _ _ ?_
    simp only [r_slices_Index_string_string_1, ↓zp, zs, hasK, zt, ha.len, ha.idx hlt]
    have hm : l.getD i [] ∈ l := by simp [List.getD_eq_getElem?_getD, hlt]
    refine ⟨ha.1, fun _ => ⟨⟨ha.1, by omega, by omega⟩, by omega, fun h => ?_, fun h => ?_⟩, fun h => by omega⟩
    · exact .inr ⟨rfl, by rw [h]; exact hm, i, rfl, rfl⟩
    · rw [wrap_succ i (by omega)]
      refine LS_Index l a ha s hl k (i + 1) (by omega) ?_
      rw [List.take_add_one]
      simp only [List.mem_append, not_or]
      refine ⟨hn, ?_⟩
      have : l[i]? = some (l.getD i []) := by simp [List.getD_eq_getElem?_getD, hlt]
      rw [this]; simpa using h
theorem S_ContainsS (l : List (List UInt8)) (a : AV) (ha : StrsA a l) (s : List UInt8) (hl : l.length < 1000000) : FSpec Tryz.prog n_slices_Contains_string_string [a, .v (.string (mk s))] [] (Det (.v (.bool (decide (s ∈ l))))) := by
  have hI : FSpec Tryz.prog n_slices_Index_string_string [a, .v (.string (mk s))] [] (fun r o => ∃ n : Int, r = .v (.int .i64 n) ∧ (0 ≤ n ↔ s ∈ l) ∧ o = []) := by
    refine F_slices_Index_string_string _ _ ha.1 ?_
    simp only [t_slices_Index_string_string, ↓zp, zs, hasK, ha.len]
    refine ⟨ha.1, wpt_loop (LS_Index l a ha s hl l.length 0 (by omega) (by simp)) ?_ ?_⟩
    · rintro ys o (⟨_, h1, rfl, rfl⟩ | ⟨h, _⟩)
      · simp only [↓zp, zs, hasK]
        exact ⟨-1, rfl, ⟨fun h => (by omega), fun h => absurd h h1⟩⟩
      · cases h
    · rintro ys o (⟨h, _⟩ | ⟨_, h1, j, rfl, rfl⟩)
      · cases h
      · simp only [↓zp, zs, hasK]
        exact ⟨j, rfl, ⟨fun _ => h1, fun _ => (by omega)⟩⟩
  refine F_slices_Contains_string_string _ _ ha.1 ?_
  unfold t_slices_Contains_string_string
  refine wp_call hI ⟨.v (.int .i64 (if s ∈ l then 0 else -1)), [], _, rfl, by split <;> simp_all, rfl⟩ ?_
  rintro r o ⟨n, rfl, hn, rfl⟩
  simp only [↓zp, zs, hasK, Det]
  congr 2
  rw [Bool.eq_iff_iff]; simp [hn]
def addN (out : List (List UInt8)) : Ty → List (List UInt8)
  | .name s => if s ∈ out then out else out ++ [s]
  | _ => out
theorem S_names1 (t : Ty) (out : List (List UInt8)) (hl : out.length < 100000) : FSpec Tryz.prog n_impl_ty_names_1 [t.av, .ref 0 0] [.cells [.vec 1], .vec 1 (strsAV out)] (DetO .any [.cells [.vec 1], .vec 1 (strsAV (addN out t))]) := by
  refine F_impl_ty_names_1 _ _ ((ty_has _).mpr trivial) ?_
  have hlen : (strsAV out).length = out.length := by simp [strsAV]
  cases t with
  | name s =>
    simp only [t_impl_ty_names_1, Ty.av, ↓zp, zs, hasK, DetO, hlen]
    refine ⟨by omega, fun _ => ⟨by omega, ?_⟩, fun h => absurd rfl h⟩
    refine wp_det (S_ContainsS out _ (.of out) s (by omega)) ?_
    simp only [↓zp, zs, hasK, addN]
    refine ⟨fun h => ⟨by omega, ⟨fun c hc => (by simp at hc; rw [hc]; rfl), by omega⟩, ?_⟩, fun h => ?_⟩
    · rw [S_append, if_neg h]
    · rw [if_pos h]
  | _ => simp [t_impl_ty_names_1, Ty.av, ↓zp, zs, hasK, DetO, addN]
def namesOf : Ty → List (List UInt8) → List (List UInt8)
  | .name s, out => addN out (.name s)
  | .plus a b, out => namesOf b (namesOf a out)
  | .times a b, out => namesOf b (namesOf a out)
  | .rc a, out => namesOf a out
  | _, out => out
theorem namesOf_len : ∀ (t : Ty) (out : List (List UInt8)), (namesOf t out).length ≤ out.length + t.atoms
  | .name s, out => by simp only [namesOf, addN, Ty.atoms]; split <;> simp
  | .plus a b, out => by
    have := namesOf_len a out
    have := namesOf_len b (namesOf a out)
    simp only [namesOf, Ty.atoms]; omega
  | .times a b, out => by
    have := namesOf_len a out
    have := namesOf_len b (namesOf a out)
    simp only [namesOf, Ty.atoms]; omega
  | .rc a, out => by
    have := namesOf_len a out
    simp only [namesOf, Ty.atoms]; omega
  | .zero, out => by simp [namesOf]
  | .one, out => by simp [namesOf]
  | .bound u, out => by simp [namesOf]
theorem S_visit_names : ∀ (t : Ty) (out : List (List UInt8)), out.length + t.atoms < 100000 → FSpec Tryz.prog n_impl_ty_visit [t.av, .fn n_impl_ty_names_1 [.ref 0 0]] [.cells [.vec 1], .vec 1 (strsAV out)] (DetO .any [.cells [.vec 1], .vec 1 (strsAV (namesOf t out))])
  | .plus a b, out, hl => by
    simp only [Ty.atoms] at hl
    have := namesOf_len a out
    refine F_impl_ty_visit_names _ _ ((ty_has _).mpr trivial) ?_
    unfold t_impl_ty_visit_names
    refine wp_detO (S_names1 (.plus a b) out (by omega)) ?_
    simp only [Ty.av, ↓zp, zs, hasK, ty_has, ty_nil, addN, hasC, DetO]
    refine ⟨by omega, fun _ => ⟨by omega, ?_⟩, fun h => (by cases h)⟩
    refine wp_detO (S_visit_names a out (by omega)) ?_
    simp only [↓zp, zs, hasK, ty_has, ty_nil, hasC]
    refine ⟨by omega, fun _ => ⟨by omega, ?_⟩, fun h => (by cases h)⟩
    refine wp_detO (S_visit_names b (namesOf a out) (by omega)) ?_
    simp only [↓zp, zs, hasK, hasC, namesOf]
  | .times a b, out, hl => by
    simp only [Ty.atoms] at hl
    have := namesOf_len a out
    refine F_impl_ty_visit_names _ _ ((ty_has _).mpr trivial) ?_
    unfold t_impl_ty_visit_names
    refine wp_detO (S_names1 (.times a b) out (by omega)) ?_
    simp only [Ty.av, ↓zp, zs, hasK, ty_has, ty_nil, addN, hasC, DetO]
    refine ⟨by omega, fun _ => ⟨by omega, ?_⟩, fun h => (by cases h)⟩
    refine wp_detO (S_visit_names a out (by omega)) ?_
    simp only [↓zp, zs, hasK, ty_has, ty_nil, hasC]
    refine ⟨by omega, fun _ => ⟨by omega, ?_⟩, fun h => (by cases h)⟩
    refine wp_detO (S_visit_names b (namesOf a out) (by omega)) ?_
    simp only [↓zp, zs, hasK, hasC, namesOf]
  | .rc a, out, hl => by
    simp only [Ty.atoms] at hl
    refine F_impl_ty_visit_names _ _ ((ty_has _).mpr trivial) ?_
    unfold t_impl_ty_visit_names
    refine wp_detO (S_names1 (.rc a) out (by omega)) ?_
    simp only [Ty.av, ↓zp, zs, hasK, ty_has, ty_nil, addN, hasC, DetO]
    refine ⟨by omega, fun _ => ⟨by omega, ?_⟩, fun h => (by cases h)⟩
    refine wp_detO (S_visit_names a out (by omega)) ?_
    simp [↓zp, zs, hasK, ty_has, ty_nil, hasC, namesOf]
  | .name s, out, hl => by
    refine F_impl_ty_visit_names _ _ ((ty_has _).mpr trivial) ?_
    unfold t_impl_ty_visit_names
    refine wp_detO (S_names1 (.name s) out (by omega)) ?_
    simp [Ty.av, ↓zp, zs, hasK, hasC, DetO, namesOf]
  | .zero, out, hl => by
    refine F_impl_ty_visit_names _ _ ((ty_has _).mpr trivial) ?_
    unfold t_impl_ty_visit_names
    refine wp_detO (S_names1 .zero out (by omega)) ?_
    simp [Ty.av, ↓zp, zs, hasK, hasC, DetO, namesOf, addN]
  | .one, out, hl => by
    refine F_impl_ty_visit_names _ _ ((ty_has _).mpr trivial) ?_
    unfold t_impl_ty_visit_names
    refine wp_detO (S_names1 .one out (by omega)) ?_
    simp [Ty.av, ↓zp, zs, hasK, hasC, DetO, namesOf, addN]
  | .bound u, out, hl => by
    refine F_impl_ty_visit_names _ _ ((ty_has _).mpr trivial) ?_
    unfold t_impl_ty_visit_names
    refine wp_detO (S_names1 (.bound u) out (by omega)) ?_
    simp [Ty.av, ↓zp, zs, hasK, hasC, DetO, namesOf, addN]
theorem S_names (t : Ty) (hl : t.atoms < 100000) : FSpec Tryz.prog n_impl_ty_names [t.av] [] (Det (.sl (strsAV (namesOf t [])))) := by
  refine F_impl_ty_names _ ((ty_has _).mpr trivial) ?_
  unfold t_impl_ty_names
  refine wp_detO (S_visit_names t [] (by simpa using hl)) ?_
  simp [↓zp, zs, hasK, hasC, Det]
theorem LS_IndexFunc (l : List (List UInt8)) (a : AV) (ha : StrsA a l) (hl : l.length < 1000000) : ∀ (k i : Nat), i + k = l.length → (∀ s, s ∈ l.take i → isLoo s = false) → LS_slices_IndexFunc_string_string_loop_1 [a, .v (.func (.func n_impl_isLoopName) #[] #[]), .v (.int .i64 (l.length : Int)), .v (.int .i64 (i : Int))] []
    (FoundR (l.any isLoo = true))
  | 0, i, hi, hn => by
    refine G_slices_IndexFunc_string_string_loop_1 _ _ _ ?_
    simp only [r_slices_IndexFunc_string_string_loop_1, ↓zp, zs, hasK]
    have : l.take i = l := List.take_of_length_le (by omega)
    rw [this] at hn
    exact ⟨ha.1, fun h => by omega, fun _ => .inl ⟨rfl, fun hh => (by obtain ⟨x, hx, hy⟩ := List.any_eq_true.1 hh; rw [hn x hx] at hy; cases hy), rfl, rfl⟩⟩
  | k + 1, i, hi, hn => by
    have hlt : i < l.length := by omega
    refine G_slices_IndexFunc_string_string_loop_1 _ _ _ ?_
    simp only [r_slices_IndexFunc_string_string_loop_1, ↓zp, zs, hasK, zt, ha.len, ha.idx hlt]
    have hm : l.getD i [] ∈ l := by simp [List.getD_eq_getElem?_getD, hlt]
    refine ⟨ha.1, fun _ => ⟨⟨ha.1, by omega, by omega⟩, by omega, ?_⟩, fun h => by omega⟩
    refine wp_det (S_isLoopName _) ?_
    simp only [↓zp, zs, hasK]
    refine ⟨fun h => ?_, fun h => ?_⟩
    · exact .inr ⟨rfl, List.any_eq_true.2 ⟨_, hm, h⟩, i, rfl, rfl⟩
    · rw [wrap_succ i (by omega)]
      refine LS_IndexFunc l a ha hl k (i + 1) (by omega) ?_
      intro s hs
      rw [List.take_add_one] at hs
      have : l[i]? = some (l.getD i []) := by simp [List.getD_eq_getElem?_getD, hlt]
      rw [this] at hs
      rcases List.mem_append.1 hs with hs | hs
      · exact hn s hs
      · simp at hs; rw [hs]; simpa using h
theorem S_ContainsLoop (l : List (List UInt8)) (a : AV) (ha : StrsA a l) (hl : l.length < 1000000) : FSpec Tryz.prog n_slices_ContainsFunc_string_string [a, .v (.func (.func n_impl_isLoopName) #[] #[])] [] (Det (.v (.bool (l.any isLoo)))) := by
  have hI : FSpec Tryz.prog n_slices_IndexFunc_string_string [a, .v (.func (.func n_impl_isLoopName) #[] #[])] [] (fun r o => ∃ n : Int, r = .v (.int .i64 n) ∧ (0 ≤ n ↔ l.any isLoo = true) ∧ o = []) := by
    refine F_slices_IndexFunc_string_string_loop _ ha.1 ?_
    simp only [t_slices_IndexFunc_string_string_loop, ↓zp, zs, hasK, ha.len]
    refine ⟨ha.1, wpt_loop (LS_IndexFunc l a ha hl l.length 0 (by omega) (by simp)) ?_ ?_⟩
    · rintro ys o (⟨_, h1, rfl, rfl⟩ | ⟨h, _⟩)
      · simp only [↓zp, zs, hasK]
        exact ⟨-1, rfl, ⟨fun h => (by omega), fun h => absurd h h1⟩⟩
      · cases h
    · rintro ys o (⟨h, _⟩ | ⟨_, h1, j, rfl, rfl⟩)
      · cases h
      · simp only [↓zp, zs, hasK]
        exact ⟨j, rfl, ⟨fun _ => h1, fun _ => (by omega)⟩⟩
  refine F_slices_ContainsFunc_string_string_loop _ ha.1 ?_
  unfold t_slices_ContainsFunc_string_string_loop
  refine wp_call hI ⟨.v (.int .i64 (if l.any isLoo = true then 0 else -1)), [], _, rfl, by split <;> simp_all, rfl⟩ ?_
  rintro r o ⟨n, rfl, hn, rfl⟩
  simp only [↓zp, zs, hasK, Det]
  congr 2
  rw [Bool.eq_iff_iff]; simp only [decide_eq_true_eq, ge_iff_le, hn]
def Ty.closed (t : Ty) : Bool := !((namesOf t []).any isLoo)
theorem S_isClosed (t : Ty) (hl : t.atoms < 100000) : FSpec Tryz.prog n_impl_ty_isClosed [t.av] [] (Det (.v (.bool t.closed))) := by
  refine F_impl_ty_isClosed _ ((ty_has _).mpr trivial) ?_
  unfold t_impl_ty_isClosed
  refine wp_det (S_names t hl) ?_
  simp only [↓zp, zs, hasK]
  have := namesOf_len t []
  refine wp_det (S_ContainsLoop _ _ (.of _) (by simp at this; omega)) ?_
  simp only [↓zp, zs, hasK, Det, Ty.closed]
def rdC (s : List UInt8) : Option Ty := match rdY s with
  | none => none
  | some t => if t.closed = true then some t else none
theorem rdY_atoms {s : List UInt8} {t : Ty} (h : rdY s = some t) : t.atoms ≤ 400 := by
  unfold rdY at h
  split at h
  · cases h
  · split at h
    · cases h
    · split at h <;> cases h
      omega
theorem S_closedType (s : List UInt8) : FSpec Tryz.prog n_impl_closedType [.v (.string (mk s))] [] (Det (optT (rdC s))) := by
  refine F_impl_closedType _ ?_
  unfold t_impl_closedType
  refine wp_det (S_readType s) ?_
  unfold rdC
  cases ht : rdY s with
  | none => simp [optT, ↓zp, zs, hasK, Det]
  | some t =>
    have := rdY_atoms ht
    simp only [optT, ↓zp, zs, hasK, ty_has, ty_nil]
    refine ⟨fun h => (by cases h), fun _ => ?_⟩
    refine wp_det (S_isClosed t (by omega)) ?_
    simp only [↓zp, zs, hasK, Det]
    refine ⟨fun h => ?_, fun h => ?_⟩
    · rw [if_neg (by rw [h]; simp)]
    · rw [if_pos h]
/-! ### Plain types -/
def stepP (b : Bool) : Ty → Bool
  | .rc _ => false
  | .name s => b && decide (s.length ≤ 1)
  | _ => b
theorem S_plain1 (t : Ty) (b : Bool) : FSpec Tryz.prog n_impl_plainType_1 [t.av, .ref 0 0] [.cells [.v (.bool b)]] (DetO .any [.cells [.v (.bool (stepP b t))]]) := by
  refine F_impl_plainType_1 _ _ ((ty_has _).mpr trivial) ?_
  cases b <;> cases t <;> simp [t_impl_plainType_1, Ty.av, ↓zp, zs, hasK, zt, DetO, stepP] <;> omega
def plainV : Ty → Bool → Bool
  | .plus a c, b => plainV c (plainV a b)
  | .times a c, b => plainV c (plainV a b)
  | .rc a, b => plainV a false
  | .name s, b => b && decide (s.length ≤ 1)
  | _, b => b
theorem S_visit_plain : ∀ (t : Ty) (b : Bool), FSpec Tryz.prog n_impl_ty_visit [t.av, .fn n_impl_plainType_1 [.ref 0 0]] [.cells [.v (.bool b)]] (DetO .any [.cells [.v (.bool (plainV t b))]])
  | .plus a c, b => by
    refine F_impl_ty_visit_plain _ _ ((ty_has _).mpr trivial) ?_
    unfold t_impl_ty_visit_plain
    refine wp_detO (S_plain1 (.plus a c) b) ?_
    simp only [Ty.av, ↓zp, zs, hasK, ty_has, ty_nil, stepP, hasC, DetO]
    refine ⟨by omega, fun _ => ⟨by omega, ?_⟩, fun h => (by cases h)⟩
    refine wp_detO (S_visit_plain a b) ?_
    simp only [↓zp, zs, hasK, ty_has, ty_nil, hasC]
    refine ⟨by omega, fun _ => ⟨by omega, ?_⟩, fun h => (by cases h)⟩
    refine wp_detO (S_visit_plain c _) ?_
    simp only [↓zp, zs, hasK, hasC, plainV]
  | .times a c, b => by
    refine F_impl_ty_visit_plain _ _ ((ty_has _).mpr trivial) ?_
    unfold t_impl_ty_visit_plain
    refine wp_detO (S_plain1 (.times a c) b) ?_
    simp only [Ty.av, ↓zp, zs, hasK, ty_has, ty_nil, stepP, hasC, DetO]
    refine ⟨by omega, fun _ => ⟨by omega, ?_⟩, fun h => (by cases h)⟩
    refine wp_detO (S_visit_plain a b) ?_
    simp only [↓zp, zs, hasK, ty_has, ty_nil, hasC]
    refine ⟨by omega, fun _ => ⟨by omega, ?_⟩, fun h => (by cases h)⟩
    refine wp_detO (S_visit_plain c _) ?_
    simp only [↓zp, zs, hasK, hasC, plainV]
  | .rc a, b => by
    refine F_impl_ty_visit_plain _ _ ((ty_has _).mpr trivial) ?_
    unfold t_impl_ty_visit_plain
    refine wp_detO (S_plain1 (.rc a) b) ?_
    simp only [Ty.av, ↓zp, zs, hasK, ty_has, ty_nil, stepP, hasC, DetO]
    refine ⟨by omega, fun _ => ⟨by omega, ?_⟩, fun h => (by cases h)⟩
    refine wp_detO (S_visit_plain a false) ?_
    simp [↓zp, zs, hasK, ty_has, ty_nil, hasC, plainV]
  | .name s, b => by
    refine F_impl_ty_visit_plain _ _ ((ty_has _).mpr trivial) ?_
    unfold t_impl_ty_visit_plain
    refine wp_detO (S_plain1 (.name s) b) ?_
    simp [Ty.av, ↓zp, zs, hasK, hasC, DetO, plainV, stepP]
  | .zero, b => by
    refine F_impl_ty_visit_plain _ _ ((ty_has _).mpr trivial) ?_
    unfold t_impl_ty_visit_plain
    refine wp_detO (S_plain1 .zero b) ?_
    simp [Ty.av, ↓zp, zs, hasK, hasC, DetO, plainV, stepP]
  | .one, b => by
    refine F_impl_ty_visit_plain _ _ ((ty_has _).mpr trivial) ?_
    unfold t_impl_ty_visit_plain
    refine wp_detO (S_plain1 .one b) ?_
    simp [Ty.av, ↓zp, zs, hasK, hasC, DetO, plainV, stepP]
  | .bound u, b => by
    refine F_impl_ty_visit_plain _ _ ((ty_has _).mpr trivial) ?_
    unfold t_impl_ty_visit_plain
    refine wp_detO (S_plain1 (.bound u) b) ?_
    simp [Ty.av, ↓zp, zs, hasK, hasC, DetO, plainV, stepP]
def rdP (s : List UInt8) : Option Ty := match rdC s with
  | none => none
  | some t => if plainV t true = true then some t else none
end Go.Proofs.Trees
