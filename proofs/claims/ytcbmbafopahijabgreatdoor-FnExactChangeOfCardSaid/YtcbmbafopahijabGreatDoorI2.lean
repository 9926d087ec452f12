/-
  Part of a proof: laws over values.
-/
import Derived.Test.YtcbmbafopahijabGreatDoorI1
import Derived.Test.YtcbmbafopahijabGreatDoorW1
set_option linter.unusedVariables false
set_option linter.unusedSimpArgs false
namespace Go.Proofs.Trees
open Go Go.VL Go.RowKit
/-! ### Holes are added, each in its context -/
def hAV (l : List Hl) : List (List AV) := l.map fun h => [h.1.iav, h.2.iav]
theorem hAV_len (l : List Hl) : (hAV l).length = l.length := by simp [hAV]
theorem hAV_get {l : List Hl} {i : Nat} (hi : i < l.length) : (hAV l).getD i [] = [(l[i]).1.iav, (l[i]).2.iav] := by simp [hAV, List.getD_eq_getElem?_getD, hi]
theorem hAV_app (l r : List Hl) : hAV (l ++ r) = hAV l ++ hAV r := by simp [hAV]
theorem hAV_one (out : List Hl) (a b : Vl) : hAV out ++ [[a.iav, b.iav]] = hAV (out ++ [(a, b)]) := by simp [hAV]
theorem inC_drop (g : Vl → Vl) (l : List Hl) {i : Nat} (hi : i < l.length) : inC g (l.drop i) = (g (l[i]).1, (l[i]).2) :: inC g (l.drop (i + 1)) := by
  rw [List.drop_eq_getElem_cons hi]; rfl
theorem inC_len (g : Vl → Vl) (l : List Hl) : (inC g l).length = l.length := by simp [inC]
theorem inC_end (g : Vl → Vl) (l : List Hl) : inC g (l.drop l.length) = [] := by simp [inC]
theorem len2 (a b : AV) : allLen 2 [[a, b]] := fun c hc => by simp at hc; rw [hc]; rfl

theorem LS_add2 (x0 : AV) (hx0 : LK.ptr.has x0) (g : Vl → Vl) (hg : ∀ c : Vl, FSpec Tryz.prog n_impl_holesOf_2 [c.iav, .ref 0 0] [.cells [x0]] (DetO (g c).iav [.cells [x0]])) (l : List Hl) : ∀ (k i : Nat) (out : List Hl), i + k = l.length → out.length + k ≤ 1000000 → l.length ≤ 1000000 →
    LS_impl_holesOf_1_2_1 [.sl (hAV l), .v (.int .i64 (l.length : Int)), .v (.int .i64 (i : Int))] [.cells [x0], .cells [.any], .vec 2 (hAV out)] (LIs 1 [] [.cells [x0], .cells [.any], .vec 2 (hAV (out ++ inC g (l.drop i)))])
  | 0, i, out, hi, ho, hl => by
    refine G_impl_holesOf_1_2_1 _ _ _ _ _ ?_
    have : i = l.length := by omega
    subst this
    simp only [r_impl_holesOf_1_2_1, ↓zp, zs, hasK, hAV_len, hx0]
    exact ⟨fun h => by omega, fun _ => by simp [LIs, inC]⟩
  | k + 1, i, out, hi, ho, hl => by
    have hlt : i < l.length := by omega
    refine G_impl_holesOf_1_2_1 _ _ _ _ _ ?_
    simp only [r_impl_holesOf_1_2_1, ↓zp, zs, hasK, zt, hAV_len, hAV_get hlt, vl_has, hasL, hx0]
    refine ⟨fun _ => ⟨by omega, by omega, ?_⟩, fun h => by omega⟩
    refine wp_detO (hg _) ?_
    simp only [↓zp, zs, hasK, vl_has, hasC, Det, DetO, hx0]
    refine ⟨⟨len2 _ _, by omega⟩, ?_⟩
    rw [wrap_succ i (by omega)]
    have := LS_add2 x0 hx0 g hg l k (i + 1) (out ++ [(g (l[i]).1, (l[i]).2)]) (by omega) (by simp; omega) hl
    rw [List.append_assoc] at this
    rw [inC_drop g l hlt, hAV_one]
    exact this
theorem S_add2 (x0 : AV) (hx0 : LK.ptr.has x0) (g : Vl → Vl) (hg : ∀ c : Vl, FSpec Tryz.prog n_impl_holesOf_2 [c.iav, .ref 0 0] [.cells [x0]] (DetO (g c).iav [.cells [x0]])) (l out : List Hl) (hl : out.length + l.length ≤ 1000000) :
    FSpec Tryz.prog n_impl_holesOf_1 [.sl (hAV l), .fn n_impl_holesOf_2 [.ref 0 0], .ref 1 0] [.cells [x0], .cells [.vec 2], .vec 2 (hAV out)] (DetO .any [.cells [x0], .cells [.vec 2], .vec 2 (hAV (out ++ inC g l))]) := by
  refine F_impl_holesOf_1_2 _ _ _ ((has_sl _).mpr trivial) hx0 ?_
  simp only [t_impl_holesOf_1_2, ↓zp, zs, hasK, hAV_len]
  have h := LS_add2 x0 hx0 g hg l l.length 0 out (by omega) (by omega) (by omega)
  rw [List.drop_zero] at h
  refine wp_loop1 h ?_
  simp [↓zp, zs, hasK, DetO, hasC, hx0]

theorem LS_add3 (x0 : AV) (hx0 : LK.ptr.has x0) (g : Vl → Vl) (hg : ∀ c : Vl, FSpec Tryz.prog n_impl_holesOf_3 [c.iav, .ref 0 0] [.cells [x0]] (DetO (g c).iav [.cells [x0]])) (l : List Hl) : ∀ (k i : Nat) (out : List Hl), i + k = l.length → out.length + k ≤ 1000000 → l.length ≤ 1000000 →
    LS_impl_holesOf_1_3_1 [.sl (hAV l), .v (.int .i64 (l.length : Int)), .v (.int .i64 (i : Int))] [.cells [x0], .cells [.any], .vec 2 (hAV out)] (LIs 1 [] [.cells [x0], .cells [.any], .vec 2 (hAV (out ++ inC g (l.drop i)))])
  | 0, i, out, hi, ho, hl => by
    refine G_impl_holesOf_1_3_1 _ _ _ _ _ ?_
    have : i = l.length := by omega
    subst this
    simp only [r_impl_holesOf_1_3_1, ↓zp, zs, hasK, hAV_len, hx0]
    exact ⟨fun h => by omega, fun _ => by simp [LIs, inC]⟩
  | k + 1, i, out, hi, ho, hl => by
    have hlt : i < l.length := by omega
    refine G_impl_holesOf_1_3_1 _ _ _ _ _ ?_
    simp only [r_impl_holesOf_1_3_1, ↓zp, zs, hasK, zt, hAV_len, hAV_get hlt, vl_has, hasL, hx0]
    refine ⟨fun _ => ⟨by omega, by omega, ?_⟩, fun h => by omega⟩
    refine wp_detO (hg _) ?_
    simp only [↓zp, zs, hasK, vl_has, hasC, Det, DetO, hx0]
    refine ⟨⟨len2 _ _, by omega⟩, ?_⟩
    rw [wrap_succ i (by omega)]
    have := LS_add3 x0 hx0 g hg l k (i + 1) (out ++ [(g (l[i]).1, (l[i]).2)]) (by omega) (by simp; omega) hl
    rw [List.append_assoc] at this
    rw [inC_drop g l hlt, hAV_one]
    exact this
theorem S_add3 (x0 : AV) (hx0 : LK.ptr.has x0) (g : Vl → Vl) (hg : ∀ c : Vl, FSpec Tryz.prog n_impl_holesOf_3 [c.iav, .ref 0 0] [.cells [x0]] (DetO (g c).iav [.cells [x0]])) (l out : List Hl) (hl : out.length + l.length ≤ 1000000) :
    FSpec Tryz.prog n_impl_holesOf_1 [.sl (hAV l), .fn n_impl_holesOf_3 [.ref 0 0], .ref 1 0] [.cells [x0], .cells [.vec 2], .vec 2 (hAV out)] (DetO .any [.cells [x0], .cells [.vec 2], .vec 2 (hAV (out ++ inC g l))]) := by
  refine F_impl_holesOf_1_3 _ _ _ ((has_sl _).mpr trivial) hx0 ?_
  simp only [t_impl_holesOf_1_3, ↓zp, zs, hasK, hAV_len]
  have h := LS_add3 x0 hx0 g hg l l.length 0 out (by omega) (by omega) (by omega)
  rw [List.drop_zero] at h
  refine wp_loop1 h ?_
  simp [↓zp, zs, hasK, DetO, hasC, hx0]

theorem LS_add4 (x0 : AV) (hx0 : LK.ptr.has x0) (g : Vl → Vl) (hg : ∀ c : Vl, FSpec Tryz.prog n_impl_holesOf_4 [c.iav, .ref 0 0] [.cells [x0]] (DetO (g c).iav [.cells [x0]])) (l : List Hl) : ∀ (k i : Nat) (out : List Hl), i + k = l.length → out.length + k ≤ 1000000 → l.length ≤ 1000000 →
    LS_impl_holesOf_1_4_1 [.sl (hAV l), .v (.int .i64 (l.length : Int)), .v (.int .i64 (i : Int))] [.cells [x0], .cells [.any], .vec 2 (hAV out)] (LIs 1 [] [.cells [x0], .cells [.any], .vec 2 (hAV (out ++ inC g (l.drop i)))])
  | 0, i, out, hi, ho, hl => by
    refine G_impl_holesOf_1_4_1 _ _ _ _ _ ?_
    have : i = l.length := by omega
    subst this
    simp only [r_impl_holesOf_1_4_1, ↓zp, zs, hasK, hAV_len, hx0]
    exact ⟨fun h => by omega, fun _ => by simp [LIs, inC]⟩
  | k + 1, i, out, hi, ho, hl => by
    have hlt : i < l.length := by omega
    refine G_impl_holesOf_1_4_1 _ _ _ _ _ ?_
    simp only [r_impl_holesOf_1_4_1, ↓zp, zs, hasK, zt, hAV_len, hAV_get hlt, vl_has, hasL, hx0]
    refine ⟨fun _ => ⟨by omega, by omega, ?_⟩, fun h => by omega⟩
    refine wp_detO (hg _) ?_
    simp only [↓zp, zs, hasK, vl_has, hasC, Det, DetO, hx0]
    refine ⟨⟨len2 _ _, by omega⟩, ?_⟩
    rw [wrap_succ i (by omega)]
    have := LS_add4 x0 hx0 g hg l k (i + 1) (out ++ [(g (l[i]).1, (l[i]).2)]) (by omega) (by simp; omega) hl
    rw [List.append_assoc] at this
    rw [inC_drop g l hlt, hAV_one]
    exact this
theorem S_add4 (x0 : AV) (hx0 : LK.ptr.has x0) (g : Vl → Vl) (hg : ∀ c : Vl, FSpec Tryz.prog n_impl_holesOf_4 [c.iav, .ref 0 0] [.cells [x0]] (DetO (g c).iav [.cells [x0]])) (l out : List Hl) (hl : out.length + l.length ≤ 1000000) :
    FSpec Tryz.prog n_impl_holesOf_1 [.sl (hAV l), .fn n_impl_holesOf_4 [.ref 0 0], .ref 1 0] [.cells [x0], .cells [.vec 2], .vec 2 (hAV out)] (DetO .any [.cells [x0], .cells [.vec 2], .vec 2 (hAV (out ++ inC g l))]) := by
  refine F_impl_holesOf_1_4 _ _ _ ((has_sl _).mpr trivial) hx0 ?_
  simp only [t_impl_holesOf_1_4, ↓zp, zs, hasK, hAV_len]
  have h := LS_add4 x0 hx0 g hg l l.length 0 out (by omega) (by omega) (by omega)
  rw [List.drop_zero] at h
  refine wp_loop1 h ?_
  simp [↓zp, zs, hasK, DetO, hasC, hx0]

theorem LS_add5 (g : Vl → Vl) (hg : ∀ c : Vl, FSpec Tryz.prog n_impl_holesOf_5 [c.iav] [] (Det (g c).iav)) (l : List Hl) : ∀ (k i : Nat) (out : List Hl), i + k = l.length → out.length + k ≤ 1000000 → l.length ≤ 1000000 →
    LS_impl_holesOf_1_5_1 [.v (.func (.func n_impl_holesOf_5) #[] #[]), .sl (hAV l), .v (.int .i64 (l.length : Int)), .v (.int .i64 (i : Int))] [.cells [.any], .vec 2 (hAV out)] (LIs 1 [] [.cells [.any], .vec 2 (hAV (out ++ inC g (l.drop i)))])
  | 0, i, out, hi, ho, hl => by
    refine G_impl_holesOf_1_5_1 _ _ _ _ ?_
    have : i = l.length := by omega
    subst this
    simp only [r_impl_holesOf_1_5_1, ↓zp, zs, hasK, hAV_len]
    exact ⟨fun h => by omega, fun _ => by simp [LIs, inC]⟩
  | k + 1, i, out, hi, ho, hl => by
    have hlt : i < l.length := by omega
    refine G_impl_holesOf_1_5_1 _ _ _ _ ?_
    simp only [r_impl_holesOf_1_5_1, ↓zp, zs, hasK, zt, hAV_len, hAV_get hlt, vl_has, hasL]
    refine ⟨fun _ => ⟨by omega, by omega, ?_⟩, fun h => by omega⟩
    refine wp_det (hg _) ?_
    simp only [↓zp, zs, hasK, vl_has, hasC, Det, DetO]
    refine ⟨⟨len2 _ _, by omega⟩, ?_⟩
    rw [wrap_succ i (by omega)]
    have := LS_add5 g hg l k (i + 1) (out ++ [(g (l[i]).1, (l[i]).2)]) (by omega) (by simp; omega) hl
    rw [List.append_assoc] at this
    rw [inC_drop g l hlt, hAV_one]
    exact this
theorem S_add5 (g : Vl → Vl) (hg : ∀ c : Vl, FSpec Tryz.prog n_impl_holesOf_5 [c.iav] [] (Det (g c).iav)) (l out : List Hl) (hl : out.length + l.length ≤ 1000000) :
    FSpec Tryz.prog n_impl_holesOf_1 [.sl (hAV l), .v (.func (.func n_impl_holesOf_5) #[] #[]), .ref 0 0] [.cells [.vec 1], .vec 2 (hAV out)] (DetO .any [.cells [.vec 1], .vec 2 (hAV (out ++ inC g l))]) := by
  refine F_impl_holesOf_1_5 _ _ ((has_sl _).mpr trivial) ?_
  simp only [t_impl_holesOf_1_5, ↓zp, zs, hasK, hAV_len]
  have h := LS_add5 g hg l l.length 0 out (by omega) (by omega) (by omega)
  rw [List.drop_zero] at h
  refine wp_loop1 h ?_
  simp [↓zp, zs, hasK, DetO, hasC]

theorem LS_add6 (x0 : AV) (x1 : AV) (hx0 : LK.ptr.has x0) (hx1 : LK.ptr.has x1) (g : Vl → Vl) (hg : ∀ c : Vl, FSpec Tryz.prog n_impl_holesOf_6 [c.iav, .ref 0 0] [.cells [x0, x1]] (DetO (g c).iav [.cells [x0, x1]])) (l : List Hl) : ∀ (k i : Nat) (out : List Hl), i + k = l.length → out.length + k ≤ 1000000 → l.length ≤ 1000000 →
    LS_impl_holesOf_1_6_1 [.sl (hAV l), .v (.int .i64 (l.length : Int)), .v (.int .i64 (i : Int))] [.cells [x0, x1], .cells [.any], .vec 2 (hAV out)] (LIs 1 [] [.cells [x0, x1], .cells [.any], .vec 2 (hAV (out ++ inC g (l.drop i)))])
  | 0, i, out, hi, ho, hl => by
    refine G_impl_holesOf_1_6_1 _ _ _ _ _ _ ?_
    have : i = l.length := by omega
    subst this
    simp only [r_impl_holesOf_1_6_1, ↓zp, zs, hasK, hAV_len, hx0, hx1]
    exact ⟨fun h => by omega, fun _ => by simp [LIs, inC]⟩
  | k + 1, i, out, hi, ho, hl => by
    have hlt : i < l.length := by omega
    refine G_impl_holesOf_1_6_1 _ _ _ _ _ _ ?_
    simp only [r_impl_holesOf_1_6_1, ↓zp, zs, hasK, zt, hAV_len, hAV_get hlt, vl_has, hasL, hx0, hx1]
    refine ⟨fun _ => ⟨by omega, by omega, ?_⟩, fun h => by omega⟩
    refine wp_detO (hg _) ?_
    simp only [↓zp, zs, hasK, vl_has, hasC, Det, DetO, hx0, hx1]
    refine ⟨⟨len2 _ _, by omega⟩, ?_⟩
    rw [wrap_succ i (by omega)]
    have := LS_add6 x0 x1 hx0 hx1 g hg l k (i + 1) (out ++ [(g (l[i]).1, (l[i]).2)]) (by omega) (by simp; omega) hl
    rw [List.append_assoc] at this
    rw [inC_drop g l hlt, hAV_one]
    exact this
theorem S_add6 (x0 : AV) (x1 : AV) (hx0 : LK.ptr.has x0) (hx1 : LK.ptr.has x1) (g : Vl → Vl) (hg : ∀ c : Vl, FSpec Tryz.prog n_impl_holesOf_6 [c.iav, .ref 0 0] [.cells [x0, x1]] (DetO (g c).iav [.cells [x0, x1]])) (l out : List Hl) (hl : out.length + l.length ≤ 1000000) :
    FSpec Tryz.prog n_impl_holesOf_1 [.sl (hAV l), .fn n_impl_holesOf_6 [.ref 0 0], .ref 1 0] [.cells [x0, x1], .cells [.vec 2], .vec 2 (hAV out)] (DetO .any [.cells [x0, x1], .cells [.vec 2], .vec 2 (hAV (out ++ inC g l))]) := by
  refine F_impl_holesOf_1_6 _ _ _ _ ((has_sl _).mpr trivial) hx0 hx1 ?_
  simp only [t_impl_holesOf_1_6, ↓zp, zs, hasK, hAV_len]
  have h := LS_add6 x0 x1 hx0 hx1 g hg l l.length 0 out (by omega) (by omega) (by omega)
  rw [List.drop_zero] at h
  refine wp_loop1 h ?_
  simp [↓zp, zs, hasK, DetO, hasC, hx0, hx1]

theorem S_h2l (w c : Vl) : FSpec Tryz.prog n_impl_holesOf_2 [c.iav, .ref 0 0] [.cells [(Vl.l w).iav]] (DetO (Vl.l c).iav [.cells [(Vl.l w).iav]]) := by
  refine F_impl_holesOf_2 _ _ ((vl_has _).mpr trivial) ((vl_has _).mpr trivial) ?_
  simp only [t_impl_holesOf_2, Vl.iav, ↓zp, zs, hasK, vl_has]
  refine ⟨by omega, ?_⟩
  refine wp_det (S_with _ _ ((vl_has _).mpr trivial)) ?_
  simp [↓zp, zs, hasK, DetO, Vl.iav]

theorem S_h2r (w c : Vl) : FSpec Tryz.prog n_impl_holesOf_2 [c.iav, .ref 0 0] [.cells [(Vl.r w).iav]] (DetO (Vl.r c).iav [.cells [(Vl.r w).iav]]) := by
  refine F_impl_holesOf_2 _ _ ((vl_has _).mpr trivial) ((vl_has _).mpr trivial) ?_
  simp only [t_impl_holesOf_2, Vl.iav, ↓zp, zs, hasK, vl_has]
  refine ⟨by omega, ?_⟩
  refine wp_det (S_with _ _ ((vl_has _).mpr trivial)) ?_
  simp [↓zp, zs, hasK, DetO, Vl.iav]

theorem S_h3 (x y c : Vl) : FSpec Tryz.prog n_impl_holesOf_3 [c.iav, .ref 0 0] [.cells [(Vl.p x y).iav]] (DetO (Vl.l (.p c y)).iav [.cells [(Vl.p x y).iav]]) := by
  refine F_impl_holesOf_3 _ _ ((vl_has _).mpr trivial) ((vl_has _).mpr trivial) ?_
  simp only [t_impl_holesOf_3, Vl.iav, ↓zp, zs, hasK, vl_has]
  refine ⟨by omega, ?_⟩
  refine wp_det (S_pair _ _ ((vl_has _).mpr trivial) ((vl_has _).mpr trivial)) ?_
  simp only [↓zp, zs, hasK]
  refine wp_det (S_with _ _ ((has_ptr _).mpr trivial)) ?_
  simp [↓zp, zs, hasK, DetO, Vl.iav]

theorem S_h4 (x y c : Vl) : FSpec Tryz.prog n_impl_holesOf_4 [c.iav, .ref 0 0] [.cells [(Vl.p x y).iav]] (DetO (Vl.r (.p x c)).iav [.cells [(Vl.p x y).iav]]) := by
  refine F_impl_holesOf_4 _ _ ((vl_has _).mpr trivial) ((vl_has _).mpr trivial) ?_
  simp only [t_impl_holesOf_4, Vl.iav, ↓zp, zs, hasK, vl_has]
  refine ⟨by omega, ?_⟩
  refine wp_det (S_pair _ _ ((vl_has _).mpr trivial) ((vl_has _).mpr trivial)) ?_
  simp only [↓zp, zs, hasK]
  refine wp_det (S_with _ _ ((has_ptr _).mpr trivial)) ?_
  simp [↓zp, zs, hasK, DetO, Vl.iav]

theorem S_h6 (kc kv c : Vl) : FSpec Tryz.prog n_impl_holesOf_6 [c.iav, .ref 0 0] [.cells [kc.iav, kv.iav]] (DetO (Vl.f (.r (.p kc c))).iav [.cells [kc.iav, kv.iav]]) := by
  refine F_impl_holesOf_6 _ _ _ ((vl_has _).mpr trivial) ((vl_has _).mpr trivial) ((vl_has _).mpr trivial) ?_
  simp only [t_impl_holesOf_6, Vl.iav, ↓zp, zs, hasK, vl_has]
  refine wp_det (S_pair _ _ ((vl_has _).mpr trivial) ((vl_has _).mpr trivial)) ?_
  simp only [↓zp, zs, hasK]
  refine wp_det (S_with _ _ ((has_ptr _).mpr trivial)) ?_
  simp only [↓zp, zs, hasK]
  refine wp_det (S_with _ _ ((has_ptr _).mpr trivial)) ?_
  simp [↓zp, zs, hasK, DetO, Vl.iav, vl_has]

theorem S_h5 (c : Vl) : FSpec Tryz.prog n_impl_holesOf_5 [c.iav] [] (Det (Vl.f (.l c)).iav) := by
  refine F_impl_holesOf_5 _ ((vl_has _).mpr trivial) ?_
  simp only [t_impl_holesOf_5, ↓zp, zs, hasK]
  refine wp_det (S_with _ _ ((vl_has _).mpr trivial)) ?_
  simp only [↓zp, zs, hasK]
  refine wp_det (S_with _ _ ((has_ptr _).mpr trivial)) ?_
  simp [↓zp, zs, hasK, Det, Vl.iav]
end Go.Proofs.Trees
