/-
  Part of a proof: laws over values.
-/
import Derived.Test.YtcbmbafopahijabGreatDoorJ2
import Derived.Test.YtcbmbafopahijabGreatDoorC2
import Derived.Test.YtcbmbafopahijabGreatDoorK1
set_option linter.unusedVariables false
set_option linter.unusedSimpArgs false
namespace Go.Proofs.Trees
open Go Go.VL Go.RowKit
/-! ### The reference's plugging -/
theorem at_list (l : List E) : (E.list l).at = [] := rfl
def IHp (e : E) (s : List UInt8) (t : Ty) (c v : Vl) : Prop := FSpec Tryz.prog n_spec_l4Plug [.agg [.v (.string (mk e.at)), e.sp], .v (.string (mk s)), .agg [.v (.string (mk c.toE.at)), c.toE.sp], .agg [.v (.string (mk v.toE.at)), v.toE.sp]] [] (Det (.agg [.v (.string (mk (plug t c v).toE.at)), (plug t c v).toE.sp]))
theorem S_l4Plug : ∀ (m : Nat) (c : Vl), c.nodes ≤ m → ∀ (e : E) (env : List Fr) (t : Ty), Ask e env t → ctxOk t c = true → ∀ (s : List UInt8) (v : Vl), IHp e s t c v
  | 0, c, hm => by have := nodes_pos c; omega
  | m + 1, c, hm => by
    intro e env t A hc s v
    unfold IHp
    refine F_spec_l4Plug _ _ _ _ _ _ _ ((sp_has _).mpr trivial) ((sp_has _).mpr trivial) ((sp_has _).mpr trivial) ?_
    have atomCase : ∀ s0, e = .atom s0 → plug t c v = v → wpT Tryz.prog 244 (t_spec_l4Plug (mk e.at) e.sp (mk s) (mk c.toE.at) c.toE.sp (mk v.toE.at) v.toE.sp) fun _ xs obs => Det (.agg [.v (.string (mk (plug t c v).toE.at)), (plug t c v).toE.sp]) (xs.headD .any) obs := by
      rintro s0 rfl hp
      have hne : s0 ≠ [] := A.ok
      rw [hp]
      simp only [t_spec_l4Plug, E.at, ↓zp, zs, hasK, zt, Det]
      exact ⟨fun _ => trivial, fun h => absurd h hne⟩
    have hvh := S_l1Head_vl c
    rw [sav_sp] at hvh
    rcases ty_cases A.wf A.ty with ⟨hb, hq⟩ | ⟨u, g, rfl, hq, hu⟩
    · rcases ty_shapes A.ty hb A.cl with ⟨rfl, rfl⟩ | ⟨rfl, rfl⟩ | ⟨s0, rfl, rfl, hp, h0, h1⟩ | ⟨x, a, b, t1, t2, rfl, hx, rfl, ha, hbb⟩ | ⟨x, a, b, t1, t2, rfl, hx, rfl, ha, hbb⟩ | ⟨x, a, b, t1, rfl, hx, rfl⟩
      · exact atomCase _ rfl (plug_zero _ _)
      · exact atomCase _ rfl (plug_one _ _)
      · exact atomCase _ rfl (plug_name _ _ _)
      · obtain ⟨ok1, ok2, ok3, _⟩ := A.ok
        obtain ⟨f1, f2⟩ := freeLoo_plus A.cl
        have hP := P3.of x a b
        have hH : FSpec Tryz.prog n_spec_l1Head [.agg [.v (.string (mk [])), (E.list [x, a, b]).sp]] [] (Det (.v (.string (mk [43])))) := by rw [← hx]; exact S_l1Head x [a, b]
        rcases ctx_plus hc with ⟨y, rfl, hy⟩ | ⟨y, rfl, hy⟩
        · simp only [Vl.nodes] at hm
          have hW := P2.of (.atom [108]) y.toE
          simp only [Vl.toE, at_list] at hvh
          simp only [t_spec_l4Plug, at_list, Vl.toE, toNat_one, toNat_two, ↓zp, zs, hasK, zt, hP.1, hP.2.1, hP.2.2.1, hP.2.2.2, hW.1, hW.2.1, hW.2.2, sp_hasL]
          refine ⟨fun h => absurd rfl h, fun _ => ?_⟩
          repeat refine ⟨by omega, ?_⟩
          refine wp_det hH ?_
          simp only [↓zp, zs, hasK, zt]
          refine wp_det hvh ?_
          simp only [vh, ↓zp, zs, hasK, zt, List.cons_append, List.nil_append]
          refine ⟨by simp [size_mk], fun _ => ?_, fun h => absurd rfl h⟩
          repeat refine ⟨by omega, ?_⟩
          refine wp_det (S_l4Plug m y (by omega) a env t1 ⟨ok2, A.wf, ha, f1⟩ hy s v) ?_
          simp only [↓zp, zs, hasK, zt, sp_hasL]
          repeat refine ⟨by omega, ?_⟩
          refine wp_det (S_mk1 _ _) ?_
          simp only [↓zp, zs, hasK, zt, sp_hasL]
          repeat refine ⟨by omega, ?_⟩
          exact ⟨rfl, rfl⟩
        · simp only [Vl.nodes] at hm
          have hW := P2.of (.atom [114]) y.toE
          simp only [Vl.toE, at_list] at hvh
          simp only [t_spec_l4Plug, at_list, Vl.toE, toNat_one, toNat_two, ↓zp, zs, hasK, zt, hP.1, hP.2.1, hP.2.2.1, hP.2.2.2, hW.1, hW.2.1, hW.2.2, sp_hasL]
          refine ⟨fun h => absurd rfl h, fun _ => ?_⟩
          repeat refine ⟨by omega, ?_⟩
          refine wp_det hH ?_
          simp only [↓zp, zs, hasK, zt]
          refine wp_det hvh ?_
          simp only [vh, ↓zp, zs, hasK, zt, List.cons_append, List.nil_append]
          refine ⟨by simp [size_mk], fun h => by simp at h, fun _ => ⟨fun _ => ?_, fun h => absurd rfl h⟩⟩
          repeat refine ⟨by omega, ?_⟩
          refine wp_det (S_l4Plug m y (by omega) b env t2 ⟨ok3, A.wf, hbb, f2⟩ hy s v) ?_
          simp only [↓zp, zs, hasK, zt, sp_hasL]
          repeat refine ⟨by omega, ?_⟩
          refine wp_det (S_mk1 _ _) ?_
          simp only [↓zp, zs, hasK, zt, sp_hasL]
          repeat refine ⟨by omega, ?_⟩
          exact ⟨rfl, rfl⟩
      · obtain ⟨ok1, ok2, ok3, _⟩ := A.ok
        obtain ⟨f1, f2⟩ := freeLoo_times A.cl
        have hP := P3.of x a b
        have hH : FSpec Tryz.prog n_spec_l1Head [.agg [.v (.string (mk [])), (E.list [x, a, b]).sp]] [] (Det (.v (.string (mk [42])))) := by rw [← hx]; exact S_l1Head x [a, b]
        rcases ctx_times hc with ⟨y, z, rfl, hy⟩ | ⟨y, z, rfl, hy⟩
        · simp only [Vl.nodes] at hm
          have hW := P2.of (.atom [108]) (E.list [.atom [112], y.toE, z.toE])
          have hQ := P3.of (.atom [112]) y.toE z.toE
          simp only [Vl.toE, at_list] at hvh
          simp only [t_spec_l4Plug, at_list, Vl.toE, toNat_one, toNat_two, ↓zp, zs, hasK, zt, hP.1, hP.2.1, hP.2.2.1, hP.2.2.2, hW.1, hW.2.1, hW.2.2, hQ.1, hQ.2.1, hQ.2.2.1, hQ.2.2.2, sp_hasL]
          refine ⟨fun h => absurd rfl h, fun _ => ?_⟩
          repeat refine ⟨by omega, ?_⟩
          refine wp_det hH ?_
          simp only [↓zp, zs, hasK, zt]
          refine wp_det hvh ?_
          simp only [vh, ↓zp, zs, hasK, zt, List.cons_append, List.nil_append]
          refine ⟨by simp [size_mk], fun h => by simp at h, fun _ => ⟨fun h => by simp at h, fun _ => ⟨fun _ => ?_, fun h => absurd rfl h⟩⟩⟩
          repeat refine ⟨by omega, ?_⟩
          refine wp_det (S_l4Plug m y (by omega) a env t1 ⟨ok2, A.wf, ha, f1⟩ hy s v) ?_
          simp only [↓zp, zs, hasK, zt, sp_hasL]
          repeat refine ⟨by omega, ?_⟩
          refine wp_det (S_mk2 _ _ _) ?_
          simp only [↓zp, zs, hasK, zt, sp_hasL]
          repeat refine ⟨by omega, ?_⟩
          exact ⟨rfl, rfl⟩
        · simp only [Vl.nodes] at hm
          have hW := P2.of (.atom [114]) (E.list [.atom [112], y.toE, z.toE])
          have hQ := P3.of (.atom [112]) y.toE z.toE
          simp only [Vl.toE, at_list] at hvh
          simp only [t_spec_l4Plug, at_list, Vl.toE, toNat_one, toNat_two, ↓zp, zs, hasK, zt, hP.1, hP.2.1, hP.2.2.1, hP.2.2.2, hW.1, hW.2.1, hW.2.2, hQ.1, hQ.2.1, hQ.2.2.1, hQ.2.2.2, sp_hasL]
          refine ⟨fun h => absurd rfl h, fun _ => ?_⟩
          repeat refine ⟨by omega, ?_⟩
          refine wp_det hH ?_
          simp only [↓zp, zs, hasK, zt]
          refine wp_det hvh ?_
          simp only [vh, ↓zp, zs, hasK, zt, List.cons_append, List.nil_append]
          refine ⟨by simp [size_mk], fun h => by simp at h, fun _ => ⟨fun h => by simp at h, fun _ => ⟨fun h => by simp at h, fun _ => ⟨fun _ => ?_, fun h => absurd rfl h⟩⟩⟩⟩
          repeat refine ⟨by omega, ?_⟩
          refine wp_det (S_l4Plug m z (by omega) b env t2 ⟨ok3, A.wf, hbb, f2⟩ hy s v) ?_
          simp only [↓zp, zs, hasK, zt, sp_hasL]
          repeat refine ⟨by omega, ?_⟩
          refine wp_det (S_mk2 _ _ _) ?_
          simp only [↓zp, zs, hasK, zt, sp_hasL]
          repeat refine ⟨by omega, ?_⟩
          exact ⟨rfl, rfl⟩
      · obtain ⟨t1', he1, h1, f1, hw1⟩ := wf_enter A.wf A.ok hx A.ty A.cl
        cases he1
        obtain ⟨ok1, ok2, ok3, _⟩ := A.ok
        have A' : Ask b (.mk a.at (.list [x, a, b]) env :: env) t1 := ⟨ok3, hw1, h1, f1⟩
        have hP := P3.of x a b
        have hH : FSpec Tryz.prog n_spec_l1Head [.agg [.v (.string (mk [])), (E.list [x, a, b]).sp]] [] (Det (.v (.string (mk [114, 101, 99])))) := by rw [← hx]; exact S_l1Head x [a, b]
        rcases ctx_rc hc with ⟨y, rfl, hy⟩ | ⟨y, z, rfl, hy, hz⟩
        · simp only [Vl.nodes] at hm
          have hW := P2.of (.atom [102]) (E.list [.atom [108], y.toE])
          have hQ := P2.of (.atom [108]) y.toE
          have hvi := S_l1Head_vl (.l y)
          rw [sav_sp] at hvi
          simp only [Vl.toE, at_list] at hvh hvi
          simp only [t_spec_l4Plug, at_list, Vl.toE, toNat_one, toNat_two, ↓zp, zs, hasK, zt, hP.1, hP.2.1, hP.2.2.1, hP.2.2.2, hW.1, hW.2.1, hW.2.2, hQ.1, hQ.2.1, hQ.2.2, sp_hasL]
          refine ⟨fun h => absurd rfl h, fun _ => ?_⟩
          repeat refine ⟨by omega, ?_⟩
          refine wp_det hH ?_
          simp only [↓zp, zs, hasK, zt]
          refine wp_det hvh ?_
          simp only [vh, ↓zp, zs, hasK, zt, List.cons_append, List.nil_append]
          refine ⟨by simp [size_mk], fun h => by simp at h, fun _ => ⟨fun h => by simp at h, fun _ => ⟨fun h => by simp at h, fun _ => ⟨fun h => by simp at h, fun _ => ?_⟩⟩⟩⟩
          repeat refine ⟨by omega, ?_⟩
          refine wp_det hvi ?_
          simp only [vh, ↓zp, zs, hasK, zt]
          refine ⟨fun _ => ?_, fun h => absurd rfl h⟩
          repeat refine ⟨by omega, ?_⟩
          refine wp_det (S_l4Plug m y (by omega) b _ t1 A' hy s v) ?_
          simp only [↓zp, zs, hasK, zt, sp_hasL]
          repeat refine ⟨by omega, ?_⟩
          refine wp_det (S_mk1 _ _) ?_
          simp only [↓zp, zs, hasK, zt, sp_hasL]
          repeat refine ⟨by omega, ?_⟩
          exact ⟨rfl, rfl⟩
        · simp only [Vl.nodes] at hm
          have hW := P2.of (.atom [102]) (E.list [.atom [114], E.list [.atom [112], y.toE, z.toE]])
          have hQ := P2.of (.atom [114]) (E.list [.atom [112], y.toE, z.toE])
          have hR := P3.of (.atom [112]) y.toE z.toE
          have hvi := S_l1Head_vl (.r (.p y z))
          rw [sav_sp] at hvi
          simp only [Vl.toE, at_list] at hvh hvi
          simp only [t_spec_l4Plug, at_list, Vl.toE, toNat_one, toNat_two, ↓zp, zs, hasK, zt, hP.1, hP.2.1, hP.2.2.1, hP.2.2.2, hW.1, hW.2.1, hW.2.2, hQ.1, hQ.2.1, hQ.2.2, hR.1, hR.2.1, hR.2.2.1, hR.2.2.2, sp_hasL]
          refine ⟨fun h => absurd rfl h, fun _ => ?_⟩
          repeat refine ⟨by omega, ?_⟩
          refine wp_det hH ?_
          simp only [↓zp, zs, hasK, zt]
          refine wp_det hvh ?_
          simp only [vh, ↓zp, zs, hasK, zt, List.cons_append, List.nil_append]
          refine ⟨by simp [size_mk], fun h => by simp at h, fun _ => ⟨fun h => by simp at h, fun _ => ⟨fun h => by simp at h, fun _ => ⟨fun h => by simp at h, fun _ => ?_⟩⟩⟩⟩
          repeat refine ⟨by omega, ?_⟩
          refine wp_det hvi ?_
          simp only [vh, ↓zp, zs, hasK, zt]
          refine ⟨fun h => by simp at h, fun _ => ?_⟩
          repeat refine ⟨by omega, ?_⟩
          have i1 := S_l4Plug m z (by omega) (.list [x, a, b]) env (.rc t1) A hz s v
          unfold IHp at i1
          simp only [at_list] at i1
          refine wp_det i1 ?_
          simp only [↓zp, zs, hasK, zt, sp_hasL]
          repeat refine ⟨by omega, ?_⟩
          refine wp_det (S_l4Plug m y (by omega) b _ t1 A' hy a.at (plug (.rc t1) z v)) ?_
          simp only [↓zp, zs, hasK, zt, sp_hasL]
          repeat refine ⟨by omega, ?_⟩
          refine wp_det (S_mk1 _ _) ?_
          simp only [↓zp, zs, hasK, zt, sp_hasL]
          repeat refine ⟨by omega, ?_⟩
          exact ⟨rfl, rfl⟩
    · cases e with
      | atom s0 => exact atomCase _ rfl (plug_bound _ _ _)
      | list l => exact absurd hq (by rw [show (E.list l).at = [] from rfl, findF_nil A.wf]; simp)
end Go.Proofs.Trees
