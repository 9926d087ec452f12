/-
  Part of a proof: laws over values.
-/
import Derived.Test.YtcbmbafopahijabGreatDoorE2
set_option linter.unusedVariables false
set_option linter.unusedSimpArgs false
namespace Go.Proofs.Trees
open Go Go.VL Go.RowKit
/-! ### The reference's check -/
theorem envS_getD : ∀ (env : List Fr) (k : Nat) (f : Fr), env[k]? = some f → (envS env).getD (env.length - 1 - k) [] = f.cells
  | [], k, f, h => by cases h
  | g :: r, 0, f, h => by
    cases h
    have : (g :: r).length - 1 - 0 = (envS r).length := by simp [envS_len]
    rw [this, envS]; simp [List.getD_eq_getElem?_getD]
  | g :: r, k + 1, f, h => by
    have h' : r[k]? = some f := by simpa using h
    have hlt := (List.getElem?_eq_some_iff.1 h').1
    have e : (g :: r).length - 1 - (k + 1) = r.length - 1 - k := by simp; omega
    have := envS_getD r k f h'
    rw [e, envS, List.getD_eq_getElem?_getD, List.getElem?_append_left (by rw [envS_len]; omega), ← List.getD_eq_getElem?_getD]
    exact this
theorem fr_cells (f : Fr) : f.cells = [.v (.string (mk f.nm)), .v (.string (mk f.ex.at)), f.ex.sp, .sl (envS f.out)] := by cases f; rfl
theorem LS_l2Find (e : E) (env : List Fr) (hl : env.length < 1000000) : ∀ (j k : Nat), k + j = env.length → LS_spec_l2Find_1 [.sl (envS env), .v (.int .i64 ((env.length : Int) - 1 - (k : Int)))] [.cells [.v (.string (mk e.at)), e.sp], .cells [.v (.string (mk [])), .v (.slice none 0 0)]]
      (LBy (match findF e.at (env.drop k) with | some f => (2, [.sl (envS f.out)], [.cells [.v (.string (mk f.ex.at)), f.ex.sp]]) | none => (1, [.sl (envS env)], [.cells [.v (.string (mk e.at)), e.sp], .cells [.v (.string (mk [])), .v (.slice none 0 0)]])))
  | 0, k, hk => by
    refine G_spec_l2Find_1 _ _ _ _ _ _ ?_
    have hd : env.drop k = [] := List.drop_eq_nil_of_le (by omega)
    simp only [r_spec_l2Find_1, ↓zp, zs, hasK, sp_has, hd, findF]
    exact ⟨fun h => by omega, fun _ => by first | trivial | rfl⟩
  | j + 1, k, hk => by
    refine G_spec_l2Find_1 _ _ _ _ _ _ ?_
    have hlt : k < env.length := by omega
    have hg : env[k]? = some env[k] := List.getElem?_eq_getElem hlt
    have hc := envS_getD env k _ hg
    have e1 : ((env.length : Int) - 1 - (k : Int)) = ((env.length - 1 - k : Nat) : Int) := by omega
    have hdr : env.drop k = env[k] :: env.drop (k + 1) := List.drop_eq_getElem_cons hlt
    rw [hdr, findF, e1]
    simp only [r_spec_l2Find_1, Int.toNat_natCast, hc, fr_cells, ↓zp, zs, hasK, zt, sp_has, envS_len, hasL]
    refine ⟨fun _ => ⟨by omega, by omega, fun h => ⟨by omega, by omega, by omega, by omega, ?_⟩, fun h => ?_⟩, fun h => by omega⟩
    · rw [if_pos h]
    · rw [if_neg h]
      have e2 : IntKind.wrap .i64 (((env.length - 1 - k : Nat) : Int) - 1) = (env.length : Int) - 1 - ((k + 1 : Nat) : Int) := by
        have : IntKind.wrap .i64 (((env.length - 1 - k : Nat) : Int) - 1) = ((env.length - 1 - k : Nat) : Int) - 1 := wrap64 _ (by omega) (by omega)
        omega
      rw [e2]
      exact LS_l2Find e env hl j (k + 1) (by omega)
theorem S_l2Find (e : E) (env : List Fr) (hl : env.length < 1000000) : FSpec Tryz.prog n_spec_l2Find [e.sav, .sl (envS env)] [] (Det (.tup [(hd e env).1.sav, .sl (envS (hd e env).2)])) := by
  rw [sav_sp e]
  refine F_spec_l2Find _ _ _ ((sp_has _).mpr trivial) ((has_sl _).mpr trivial) ?_
  simp only [t_spec_l2Find, ↓zp, zs, hasK, envS_len, Det]
  have h := LS_l2Find e env hl env.length 0 (by omega)
  simp only [List.drop_zero] at h
  rw [wrap64 _ (by omega) (by omega)]
  rw [show (env.length : Int) - 1 - ((0 : Nat) : Int) = (env.length : Int) - 1 by omega] at h
  refine wp_loopB h (fun ys o e' => ?_) (fun ys o e' => ?_)
  · unfold hd
    cases hq : findF e.at env <;> rw [hq] at e' <;> cases e'
    simp only [↓zp, zs, hasK, zt, sp_has, sav_sp]
  · unfold hd
    cases hq : findF e.at env <;> rw [hq] at e' <;> cases e'
    simp only [↓zp, zs, hasK, zt, sp_has, sav_sp]
theorem envS_allLen : ∀ env : List Fr, allLen 4 (envS env)
  | [] => fun c hc => by cases hc
  | f :: r => fun c hc => by
    simp only [envS, List.mem_append, List.mem_singleton] at hc
    rcases hc with hc | rfl
    · exact envS_allLen r c hc
    · rw [fr_cells]; rfl
theorem S_l2Enter (x a b : E) (env : List Fr) (hl : env.length < 1000000) : FSpec Tryz.prog n_spec_l2Enter [(E.list [x, a, b]).sav, .sl (envS env)] [] (Det (.tup [b.sav, .sl (envS (.mk a.at (.list [x, a, b]) env :: env))])) := by
  refine F_spec_l2Enter _ _ _ ((has_sl _).mpr trivial) ((has_sl _).mpr trivial) ?_
  simp only [t_spec_l2Enter, E.scellss, toNat_one, toNat_two, ↓zp, zs, hasK, zt, sc_agg, sc_len, sc_has, sc_hd, Nat.le_refl, envS_len, Det, List.nil_append]
  refine ⟨by omega, ⟨envS_allLen env, by omega⟩, by omega, by omega, ⟨fun c hc => (by simp at hc; rw [hc]; rfl), by omega⟩, ?_⟩
  simp only [envS, fr_cells, Fr.nm, Fr.ex, Fr.out, E.at, E.sp, E.scellss]
theorem hasL_sp (s : ByteArray) (e : E) : hasL [.str, .sl] [.v (.string s), e.sp] 0 = True := by apply eq_true; simp [hasL, has_str, sp_has]
theorem hd_ask {e : E} {env : List Fr} {t : Ty} (A : Ask e env t) : ∃ e' o t', hd e env = (e', o) ∧ Ask e' o t' ∧ t'.isB = false ∧ hd e' o = (e', o) ∧ o.length ≤ env.length := by
  rcases ty_cases A.wf A.ty with ⟨hb, hh⟩ | ⟨u, f, rfl, hh, hu⟩
  · exact ⟨e, env, t, hd_none hh, A, hb, hd_none hh, Nat.le_refl _⟩
  · obtain ⟨x, a, b, t', hfe, hok, hx, ht', hf', hwf, hlt⟩ := findF_wf A.wf hh
    refine ⟨f.ex, f.out, t', hd_some hh, ⟨by rw [hfe]; exact hok, hwf, ht', hf'⟩, ?_, ?_, by omega⟩
    · obtain ⟨t1, _, _, rfl⟩ := tyOf_rec_inv hx (hfe ▸ ht'); rfl
    · rw [hfe]; exact hd_rec hwf
/-- The head of a value's text. -/
def vh : Vl → List UInt8
  | .l _ => [108]
  | .r _ => [114]
  | .f _ => [102]
  | .p _ _ => [112]
  | _ => []
theorem S_l1Head_vl (v : Vl) : FSpec Tryz.prog n_spec_l1Head [v.toE.sav] [] (Det (.v (.string (mk (vh v))))) := by
  cases v with
  | u => exact S_l1Head_atom _ _ ((has_slnil).mpr trivial) (by simp)
  | el k => exact S_l1Head_atom _ _ ((has_slnil).mpr trivial) (by simp)
  | l v => exact S_l1Head _ _
  | r v => exact S_l1Head _ _
  | f v => exact S_l1Head _ _
  | p v w => exact S_l1Head _ _
theorem elI_nil : elI [] = -1 := rfl
theorem elI_u : elI [117] = -1 := rfl
/-- What an atom of a value says. -/
theorem vat (v : Vl) (hv : v.bel 100) : v.toE.at = (match v with | .u => [117] | .el k => elS k | _ => []) ∧ elI v.toE.at = (match v with | .el k => (k : Int) | _ => -1) := by
  cases v with
  | el k => exact ⟨rfl, elI_of k hv⟩
  | u => exact ⟨rfl, rfl⟩
  | _ => exact ⟨rfl, rfl⟩
theorem S_l2Is_n (n : Nat) (hn : n ≤ 100) : ∀ (m : Nat) (v : Vl), v.nodes < m → v.bel 100 → ∀ e env t, Ask e env t → env.length + v.nodes < 100000 → FSpec Tryz.prog n_spec_l2Is [e.sav, .sl (envS env), v.toE.sav, .v (.int .i64 (n : Int))] [] (Det (.v (.bool (vis n v (e, env)))))
  | 0, v, hm, hv, e, env, t, A, hl => by omega
  | m + 1, v, hm, hv, e, env, t, A, hl => by
    obtain ⟨e', o, t', hhd, A', hb, hh', hlen⟩ := hd_ask A
    rw [vis_hd n v hhd hh', sav_sp e, sav_sp v.toE]
    refine F_spec_l2Is _ _ _ _ _ _ ((sp_has _).mpr trivial) ((has_sl _).mpr trivial) ((sp_has _).mpr trivial) ?_
    have hf := S_l2Find e env (by omega)
    rw [sav_sp e, hhd] at hf
    have hvh := S_l1Head_vl v
    rw [sav_sp] at hvh
    unfold t_spec_l2Is
    refine wp_det hf ?_
    simp only [sav_sp e', ↓zp, zs, hasK, zt, sp_has, hasL_sp, Det]
    rcases ty_shapes A'.ty hb A'.cl with ⟨rfl, rfl⟩ | ⟨rfl, rfl⟩ | ⟨s, rfl, rfl, hp, h0, h1⟩ | ⟨x, a, b, t1, t2, rfl, hx, rfl, ha, hbb⟩ | ⟨x, a, b, t1, t2, rfl, hx, rfl, ha, hbb⟩ | ⟨x, a, b, t1, rfl, hx, rfl⟩
    · refine ⟨fun _ => ⟨fun h => by simp [E.at] at h, fun _ => wp_det (S_l1Param _) ?_⟩, fun h => by simp [E.at] at h⟩
      have hp0 : isPar (E.atom [48]).at = false := rfl
      have hp1 : isPar [48] = false := rfl
      cases v <;> simp [↓zp, zs, hasK, hp0, vis, hh', hp1]
    · refine ⟨fun _ => ⟨fun _ => ?_, fun h => absurd rfl h⟩, fun h => by simp [E.at] at h⟩
      have hp1 : isPar [49] = false := rfl
      cases v <;> simp [vis, hh', hp1, Vl.toE, E.at]
    · have hne : s ≠ [] := A'.ok
      have h1' : (s == [49]) = false := by simpa using h1
      refine ⟨fun _ => ⟨fun h => absurd h h1, fun _ => wp_det (S_l1Param _) ?_⟩, fun h => absurd h hne⟩
      have hat : (E.atom s).at = s := rfl
      simp only [hat, hp, ↓zp, zs, hasK]
      refine ⟨fun _ => wp_det (S_l2Element _) ?_, fun h => by cases h⟩
      simp only [↓zp, zs, hasK]
      rw [wrap64 _ (by omega) (by omega)]
      refine wp_det (S_l6In _ _ _) ?_
      simp only [↓zp, zs, hasK, inR, (vat v hv).2]
      cases v with
      | el k =>
        simp only [vis, hh', h1', hp, zf]
        congr 2
        rw [Bool.eq_iff_iff]; simp; omega
      | _ => simp [vis, hh', h1']
    · have hok := A'.ok
      obtain ⟨ok1, ok2, ok3, _⟩ := hok
      obtain ⟨f1, f2⟩ := freeLoo_plus A'.cl
      refine ⟨fun h => absurd rfl h, fun _ => wp_det (S_l1Head x [a, b]) ?_⟩
      simp only [↓zp, zs, hasK]
      refine wp_det hvh ?_
      rw [hx]
      cases v with
      | l w =>
        simp only [Vl.nodes] at hl
        simp only [vh, Vl.toE, E.sp, E.scellss, toNat_one, toNat_two, ↓zp, zs, hasK, zt, sc_agg, sc_len, sc_has, sc_hd, Nat.le_refl]
        refine ⟨by simp, fun _ => ⟨by omega, by omega, wp_det (S_l2Is_n n hn m w (by simp only [Vl.nodes] at hm; omega) hv a o t1 ⟨ok2, A'.wf, ha, f1⟩ (by omega)) ?_⟩, fun h => absurd rfl h⟩
        simp [↓zp, zs, hasK, vis, hh', hx]
      | r w =>
        simp only [Vl.nodes] at hl
        simp only [vh, Vl.toE, E.sp, E.scellss, toNat_one, toNat_two, ↓zp, zs, hasK, zt, sc_agg, sc_len, sc_has, sc_hd, Nat.le_refl]
        refine ⟨by simp, fun h => by simp at h, fun _ => ⟨fun _ => ⟨by omega, by omega, wp_det (S_l2Is_n n hn m w (by simp only [Vl.nodes] at hm; omega) hv b o t2 ⟨ok3, A'.wf, hbb, f2⟩ (by omega)) ?_⟩, fun h => absurd rfl h⟩⟩
        simp [↓zp, zs, hasK, vis, hh', hx]
      | _ => simp [vh, ↓zp, zs, hasK, zt, vis, hh', hx]
    · have hok := A'.ok
      obtain ⟨ok1, ok2, ok3, _⟩ := hok
      obtain ⟨f1, f2⟩ := freeLoo_times A'.cl
      refine ⟨fun h => absurd rfl h, fun _ => wp_det (S_l1Head x [a, b]) ?_⟩
      simp only [↓zp, zs, hasK]
      refine wp_det hvh ?_
      rw [hx]
      cases v with
      | p w z =>
        simp only [Vl.nodes] at hl
        simp only [vh, Vl.toE, E.sp, E.scellss, toNat_one, toNat_two, ↓zp, zs, hasK, zt, sc_agg, sc_len, sc_has, sc_hd, Nat.le_refl]
        refine ⟨by simp, fun h => by simp at h, fun _ => ⟨fun h => by simp at h, fun _ => ⟨fun _ => ⟨by omega, by omega, wp_det (S_l2Is_n n hn m w (by simp only [Vl.nodes] at hm; omega) hv.1 a o t1 ⟨ok2, A'.wf, ha, f1⟩ (by omega)) ?_⟩, fun h => absurd rfl h⟩⟩⟩
        simp only [↓zp, zs, hasK, vis, hh', hx]
        refine ⟨fun h => ⟨by omega, by omega, wp_det (S_l2Is_n n hn m z (by simp only [Vl.nodes] at hm; omega) hv.2 b o t2 ⟨ok3, A'.wf, hbb, f2⟩ (by omega)) ?_⟩, fun h => ?_⟩
        · simp [↓zp, zs, hasK, h]
        · simp [h]
      | _ => simp [vh, ↓zp, zs, hasK, zt, vis, hh', hx]
    · obtain ⟨t1', he1, h1, f1, hw1⟩ := wf_enter A'.wf A'.ok hx A'.ty A'.cl
      cases he1
      have hok := A'.ok
      obtain ⟨ok1, ok2, ok3, _⟩ := hok
      refine ⟨fun h => absurd rfl h, fun _ => wp_det (S_l1Head x [a, b]) ?_⟩
      simp only [↓zp, zs, hasK]
      refine wp_det hvh ?_
      rw [hx]
      cases v with
      | f w =>
        simp only [Vl.nodes] at hl
        simp only [vh, Vl.toE, E.sp, E.scellss, toNat_one, toNat_two, ↓zp, zs, hasK, zt, sc_agg, sc_len, sc_has, sc_hd, Nat.le_refl]
        refine ⟨by simp, fun h => by simp at h, fun _ => ⟨fun h => by simp at h, fun _ => ⟨fun h => by simp at h, fun _ => ⟨fun _ => wp_det (S_l2Enter x a b o (by omega)) ?_, fun h => absurd rfl h⟩⟩⟩⟩
        simp only [↓zp, zs, hasK, sav_has, sav_agg]
        refine ⟨by omega, wp_det (S_l2Is_n n hn m w (by simp only [Vl.nodes] at hm; omega) hv b (.mk a.at (.list [x, a, b]) o :: o) t1 ⟨ok3, hw1, h1, f1⟩ (by simp; omega)) ?_⟩
        simp [↓zp, zs, hasK, vis, hh', hx]
      | _ => simp [vh, ↓zp, zs, hasK, zt, vis, hh', hx]
theorem S_l2Is (n : Nat) (hn : n ≤ 100) (v : Vl) (hv : v.bel 100) (e : E) (env : List Fr) (t : Ty) (A : Ask e env t) (hl : env.length + v.nodes < 100000) : FSpec Tryz.prog n_spec_l2Is [e.sav, .sl (envS env), v.toE.sav, .v (.int .i64 (n : Int))] [] (Det (.v (.bool (vis n v (e, env))))) := S_l2Is_n n hn (v.nodes + 1) v (by omega) hv e env t A hl
end Go.Proofs.Trees
