/-
  Part of a proof: laws over values.
-/
import Derived.Test.YtcbmbafopahijabGreatDoorE1
set_option linter.unusedVariables false
set_option linter.unusedSimpArgs false
namespace Go.Proofs.Trees
open Go Go.VL Go.RowKit
/-! ### The program's check -/
theorem freeLoo_plus {a b : Ty} (h : freeLoo (.plus a b) = false) : freeLoo a = false ∧ freeLoo b = false := by simpa [freeLoo] using h
theorem freeLoo_times {a b : Ty} (h : freeLoo (.times a b) = false) : freeLoo a = false ∧ freeLoo b = false := by simpa [freeLoo] using h
/-- The shapes of an expression with a type that is no bound name. -/
theorem ty_shapes {e : E} {ar : List (List UInt8)} {t : Ty} (ht : tyOf e ar = some t) (hb : t.isB = false) (hf : freeLoo t = false) :
    (e = .atom [48] ∧ t = .zero) ∨ (e = .atom [49] ∧ t = .one) ∨ (∃ s, e = .atom s ∧ t = .name s ∧ isPar s = true ∧ s ≠ [48] ∧ s ≠ [49]) ∨
    (∃ x a b t1 t2, e = .list [x, a, b] ∧ x.at = [43] ∧ t = .plus t1 t2 ∧ tyOf a ar = some t1 ∧ tyOf b ar = some t2) ∨
    (∃ x a b t1 t2, e = .list [x, a, b] ∧ x.at = [42] ∧ t = .times t1 t2 ∧ tyOf a ar = some t1 ∧ tyOf b ar = some t2) ∨
    (∃ x a b t1, e = .list [x, a, b] ∧ x.at = [114, 101, 99] ∧ t = .rc t1) := by
  cases e with
  | list l =>
    match l, ht with
    | [x, a, b], ht =>
      by_cases h0 : x.at = [43]
      · obtain ⟨t1, t2, h1, h2, rfl⟩ := tyOf_plus_inv h0 ht
        exact .inr (.inr (.inr (.inl ⟨x, a, b, t1, t2, rfl, h0, rfl, h1, h2⟩)))
      · by_cases h1 : x.at = [42]
        · obtain ⟨t1, t2, h3, h2, rfl⟩ := tyOf_times_inv h1 ht
          exact .inr (.inr (.inr (.inr (.inl ⟨x, a, b, t1, t2, rfl, h1, rfl, h3, h2⟩))))
        · by_cases h2 : x.at = [114, 101, 99]
          · obtain ⟨t1, _, _, rfl⟩ := tyOf_rec_inv h2 ht
            exact .inr (.inr (.inr (.inr (.inr ⟨x, a, b, t1, rfl, h2, rfl⟩))))
          · rw [tyOf_no _ h0 h1 h2] at ht; cases ht
    | [], ht => cases ht
    | [_], ht => cases ht
    | [_, _], ht => cases ht
    | _ :: _ :: _ :: _ :: _, ht => cases ht
  | atom s =>
    simp only [tyOf] at ht
    split at ht
    · rename_i h; cases ht; subst h; exact .inl ⟨rfl, rfl⟩
    · rename_i h0
      split at ht
      · rename_i h; cases ht; subst h; exact .inr (.inl ⟨rfl, rfl⟩)
      · rename_i h1
        split at ht
        · rename_i h; cases ht; exact .inr (.inr (.inl ⟨s, rfl, rfl, h, h0, h1⟩))
        · split at ht
          · rename_i h
            split at ht
            · cases ht; cases hb
            · cases ht; simp only [freeLoo] at hf; rw [h] at hf; cases hf
          · cases ht
def isOfS (n : Nat) (v : Vl) (e : E) (env : List Fr) (t : Ty) : Prop := FSpec Tryz.prog n_impl_isOf [.agg [t.av, envI env], v.iav, .v (.int .i64 (n : Int))] [] (Det (.v (.bool (vis n v (e, env)))))
/-- What a check is asked of. -/
structure Ask (e : E) (env : List Fr) (t : Ty) : Prop where
  ok : e.ok
  wf : WF env
  ty : tyOf e (names env) = some t
  cl : freeLoo t = false
theorem elS_drop (k : Nat) : (elS k).drop 1 = dd k := rfl
theorem S_isOf_hd (n : Nat) (hn : n ≤ 100) (v : Vl) (hv : v.bel 100) (IH : ∀ w : Vl, w.nodes < v.nodes → w.bel 100 → ∀ e env t, Ask e env t → env.length + w.nodes < 100000 → isOfS n w e env t)
    (e : E) (env : List Fr) (t : Ty) (A : Ask e env t) (hl : env.length + v.nodes < 100000) (hb : t.isB = false) (hh : findF e.at env = none) : isOfS n v e env t := by
  have hhd : hd e env = (e, env) := hd_none hh
  unfold isOfS
  refine F_impl_isOf _ _ _ _ ((ty_has _).mpr trivial) ((envI_has _).mpr trivial) ((vl_has _).mpr trivial) ?_
  rcases ty_shapes A.ty hb A.cl with ⟨rfl, rfl⟩ | ⟨rfl, rfl⟩ | ⟨s, rfl, rfl, hp, h0, h1⟩ | ⟨x, a, b, t1, t2, rfl, hx, rfl, ha, hbb⟩ | ⟨x, a, b, t1, t2, rfl, hx, rfl, ha, hbb⟩ | ⟨x, a, b, t1, rfl, hx, rfl⟩
  · have hp0 : isPar [48] = false := rfl
    cases v <;> simp [t_impl_isOf, Ty.av, ↓zp, zs, hasK, Det, vis, hhd, hp0]
  · have hp0 : isPar [49] = false := rfl
    cases v <;> simp [t_impl_isOf, Ty.av, Vl.iav, ↓zp, zs, hasK, Det, vis, hhd, hp0]
  · have h1' : (s == [49]) = false := by simpa using h1
    cases v with
    | el k =>
      have hk : k < 100 := hv
      simp only [t_impl_isOf, Ty.av, Vl.iav, ↓zp, zs, hasK, zt]
      refine ⟨by omega, fun h => by omega, fun _ => ⟨fun _ => ⟨by omega, fun h => absurd rfl h, fun _ => ⟨by omega, by omega, ?_⟩⟩, fun h => absurd rfl h⟩⟩
      have e1 : (List.take ((dd k).length + 1) (elS k)).drop (Int.toNat 1) = dd k := by simp [elS]
      rw [e1]
      refine wp_det (S_Atoi k hk) ?_
      simp only [↓zp, zs, hasK, Det, vis, hhd, h1', hp, zf]
      refine ⟨rfl, ?_⟩
      congr 2
      rw [Bool.eq_iff_iff]; simp
    | _ =>
      simp only [t_impl_isOf, Ty.av, Vl.iav, ↓zp, zs, hasK, zt, vis, hhd, h1', Det]
      exact ⟨by omega, fun h => by omega, fun _ => ⟨fun _ => ⟨by omega, fun _ => trivial, fun h => by omega⟩, fun h => absurd rfl h⟩⟩
  · have hok := A.ok
    obtain ⟨ok1, ok2, ok3, _⟩ := hok
    obtain ⟨f1, f2⟩ := freeLoo_plus A.cl
    cases v with
    | l w =>
      simp only [Vl.nodes] at hl
      simp only [t_impl_isOf, Ty.av, Vl.iav, ↓zp, zs, hasK]
      refine ⟨by omega, fun h => by omega, fun _ => ⟨fun h => by omega, fun _ => ⟨fun h => by omega, fun _ => ⟨fun _ => ⟨by omega, fun _ => ?_, fun h => absurd rfl h⟩, fun h => absurd rfl h⟩⟩⟩⟩
      refine wp_det (S_left _ _ _ _ _ _ ((ty_has _).mpr trivial) ((envI_has _).mpr trivial)) ?_
      simp only [↓zp, zs, hasK, hasL, ty_has, envI_has, vl_has]
      refine ⟨by omega, ?_⟩
      refine wp_det (IH w (by simp only [Vl.nodes]; omega) hv a env t1 ⟨ok2, A.wf, ha, f1⟩ (by omega)) ?_
      simp only [↓zp, zs, hasK, Det, vis, hhd, hx]
      refine ⟨fun h => ?_, fun h => ⟨by omega, fun h => by omega, fun _ => ?_⟩⟩
      · simp [h]
      · simp [h]
    | r w =>
      simp only [Vl.nodes] at hl
      simp only [t_impl_isOf, Ty.av, Vl.iav, ↓zp, zs, hasK]
      refine ⟨by omega, fun h => by omega, fun _ => ⟨fun h => by omega, fun _ => ⟨fun h => by omega, fun _ => ⟨fun _ => ⟨by omega, fun h => by omega, fun _ => ⟨by omega, fun _ => ?_, fun h => absurd rfl h⟩⟩, fun h => absurd rfl h⟩⟩⟩⟩
      refine wp_det (S_right _ _ _ _ _ _ ((ty_has _).mpr trivial) ((envI_has _).mpr trivial)) ?_
      simp only [↓zp, zs, hasK, hasL, ty_has, envI_has, vl_has]
      refine ⟨by omega, ?_⟩
      refine wp_det (IH w (by simp only [Vl.nodes]; omega) hv b env t2 ⟨ok3, A.wf, hbb, f2⟩ (by omega)) ?_
      simp [↓zp, zs, hasK, Det, vis, hhd, hx]
    | _ =>
      simp only [t_impl_isOf, Ty.av, Vl.iav, ↓zp, zs, hasK, vis, hhd, Det]
      exact ⟨by omega, fun h => by omega, fun _ => ⟨fun h => by omega, fun _ => ⟨fun h => by omega, fun _ => ⟨fun _ => ⟨by omega, fun h => by omega, fun _ => ⟨by omega, fun h => by omega, fun _ => by simp [hx]⟩⟩, fun h => absurd rfl h⟩⟩⟩⟩
  · have hok := A.ok
    obtain ⟨ok1, ok2, ok3, _⟩ := hok
    obtain ⟨f1, f2⟩ := freeLoo_times A.cl
    cases v with
    | p v w =>
      simp only [Vl.nodes] at hl
      simp only [t_impl_isOf, Ty.av, Vl.iav, ↓zp, zs, hasK]
      refine ⟨by omega, fun h => by omega, fun _ => ⟨fun h => by omega, fun _ => ⟨fun h => by omega, fun _ => ⟨fun h => by omega, fun _ => ⟨fun _ => ⟨by omega, fun _ => ?_, fun h => absurd rfl h⟩, fun h => absurd rfl h⟩⟩⟩⟩⟩
      refine wp_det (S_left _ _ _ _ _ _ ((ty_has _).mpr trivial) ((envI_has _).mpr trivial)) ?_
      simp only [↓zp, zs, hasK, hasL, ty_has, envI_has, vl_has]
      refine ⟨by omega, ?_⟩
      refine wp_det (IH v (by simp only [Vl.nodes]; omega) hv.1 a env t1 ⟨ok2, A.wf, ha, f1⟩ (by omega)) ?_
      simp only [↓zp, zs, hasK, Det, vis, hhd, hx]
      refine ⟨fun h => ?_, fun h => ?_⟩
      · refine wp_det (S_right _ _ _ _ _ _ ((ty_has _).mpr trivial) ((envI_has _).mpr trivial)) ?_
        simp only [↓zp, zs, hasK, hasL, ty_has, envI_has, vl_has]
        refine ⟨by omega, ?_⟩
        refine wp_det (IH w (by simp only [Vl.nodes]; omega) hv.2 b env t2 ⟨ok3, A.wf, hbb, f2⟩ (by omega)) ?_
        simp [↓zp, zs, hasK, h]
      · simp [h]
    | _ =>
      simp only [t_impl_isOf, Ty.av, Vl.iav, ↓zp, zs, hasK, vis, hhd, Det]
      exact ⟨by omega, fun h => by omega, fun _ => ⟨fun h => by omega, fun _ => ⟨fun h => by omega, fun _ => ⟨fun h => by omega, fun _ => ⟨fun _ => ⟨by omega, fun h => by omega, fun _ => by simp [hx]⟩, fun h => absurd rfl h⟩⟩⟩⟩⟩
  · obtain ⟨t1', he1, h1, f1, hw1⟩ := wf_enter A.wf A.ok hx A.ty A.cl
    cases he1
    have hok := A.ok
    obtain ⟨ok1, ok2, ok3, _⟩ := hok
    have htD : tyD (.list [x, a, b]) env = .rc t1 := by rw [tyD, A.ty]; rfl
    have hin := S_inside t1 env a.at (.list [x, a, b]) htD
    simp only [Ty.av] at hin
    simp only [t_impl_isOf, Ty.av, ↓zp, zs, hasK]
    refine ⟨by omega, fun h => by omega, fun _ => ⟨fun h => by omega, fun _ => ⟨fun h => by omega, fun _ => ⟨fun h => by omega, fun _ => ⟨fun h => by omega, fun _ => ⟨fun _ => ?_, fun h => absurd rfl h⟩⟩⟩⟩⟩⟩
    refine wp_det hin ?_
    simp only [↓zp, zs, hasK, hasL, ty_has, envI_has, fr_has, vl_has, vl_nil]
    cases v with
    | f w =>
      simp only [Vl.nodes] at hl
      simp only [Vl.iav, ↓zp, zs, hasK, vl_has]
      refine ⟨by omega, fun _ => ⟨by omega, ?_⟩, fun h => absurd rfl h⟩
      refine wp_det (IH w (by simp only [Vl.nodes]; omega) hv b (.mk a.at (.list [x, a, b]) env :: env) t1 ⟨ok3, hw1, h1, f1⟩ (by simp; omega)) ?_
      simp [↓zp, zs, hasK, Det, vis, hhd, hx]
    | _ =>
      simp only [Vl.iav, ↓zp, zs, hasK, vis, hhd, Det]
      exact ⟨by omega, fun h => by omega, fun _ => by simp [hx]⟩
theorem S_isOf_n (n : Nat) (hn : n ≤ 100) : ∀ (m : Nat) (v : Vl), v.nodes < m → v.bel 100 → ∀ e env t, Ask e env t → env.length + v.nodes < 100000 → isOfS n v e env t
  | 0, v, h, _ => by omega
  | m + 1, v, h, hv => by
    intro e env t A hl
    have IH : ∀ w : Vl, w.nodes < v.nodes → w.bel 100 → ∀ e env t, Ask e env t → env.length + w.nodes < 100000 → isOfS n w e env t := fun w hw hb => S_isOf_n n hn m w (by omega) hb
    rcases ty_cases A.wf A.ty with ⟨hb, hh⟩ | ⟨u, f, rfl, hh, hu⟩
    · exact S_isOf_hd n hn v hv IH e env t A hl hb hh
    · obtain ⟨x, a, b, t', hfe, hok, hx, ht', hf', hwf, hlt⟩ := findF_wf A.wf hh
      obtain ⟨t1, hl1, h1, rfl⟩ := tyOf_rec_inv hx (hfe ▸ ht')
      have hvis : vis n v (e, env) = vis n v (f.ex, f.out) := vis_hd n v (hd_some hh) (by rw [hfe]; exact hd_rec hwf)
      unfold isOfS
      refine F_impl_isOf _ _ _ _ ((ty_has _).mpr trivial) ((envI_has _).mpr trivial) ((vl_has _).mpr trivial) ?_
      have hbd := S_bound env u f hu (by omega)
      simp only [Ty.av] at hbd
      simp only [t_impl_isOf, Ty.av, ↓zp, zs, hasK]
      refine ⟨by omega, fun h => by omega, fun _ => ⟨fun h => by omega, fun _ => ⟨fun _ => ?_, fun h => absurd rfl h⟩⟩⟩
      refine wp_det hbd ?_
      cases f with
      | mk s ee oo =>
        simp only [Fr.ex, Fr.out] at hfe ht' hf' hwf hvis hlt
        have htD : tyD ee oo = .rc t1 := by rw [tyD, ht']; rfl
        simp only [Fr.iav, htD, ↓zp, zs, hasK, hasL, ty_has, envI_has]
        refine ⟨by omega, ?_⟩
        have hs := S_isOf_hd n hn v hv IH ee oo (.rc t1) ⟨by rw [hfe]; exact hok, hwf, ht', hf'⟩ (by omega) rfl (by rw [hfe]; exact findF_nil hwf)
        unfold isOfS at hs
        refine wp_det hs ?_
        simp [↓zp, zs, hasK, Det, hvis]
end Go.Proofs.Trees
