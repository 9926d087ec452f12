/-
  Part of a proof: laws over values.
-/
import Derived.Test.YtcbmbafopahijabGreatDoorI3
import Derived.Test.YtcbmbafopahijabGreatDoorL1
import Derived.Test.YtcbmbafopahijabGreatDoorT1
import Derived.Test.YtcbmbafopahijabGreatDoorK1
set_option linter.unusedVariables false
set_option linter.unusedSimpArgs false
namespace Go.Proofs.Trees
open Go Go.VL Go.RowKit
/-! ### The program's plugging -/
theorem S_plug : ∀ (m : Nat) (c : Vl), c.nodes ≤ m → ∀ (t : Ty) (v : Vl), ctxOk t c = true → ∀ (ea : AV) (ids : List Nat), EnvA ea ids → ∀ (s : List UInt8) (fr : AV), LK.has .ptr fr → FSpec Tryz.prog n_impl_plug [.agg [t.av, ea], c.iav, .agg [.v (.string (mk s)), fr], v.iav] [] (Det (plug t c v).iav)
  | 0, c, hm => by have := nodes_pos c; omega
  | m + 1, c, hm => by
    intro t v hc ea ids he s fr hf
    refine F_impl_plug _ _ _ _ _ _ ((ty_has _).mpr trivial) he.has ((vl_has _).mpr trivial) hf ((vl_has _).mpr trivial) ?_
    have fin : ∀ x : AV, LK.has .ptr x → LK.has .ptr x = True := fun x h => eq_true h
    cases t with
    | zero => rw [plug_zero]; simp [t_impl_plug, Ty.av, ↓zp, zs, hasK, Det]
    | one => rw [plug_one]; simp [t_impl_plug, Ty.av, ↓zp, zs, hasK, Det]
    | name n => rw [plug_name]; simp [t_impl_plug, Ty.av, ↓zp, zs, hasK, Det]
    | bound u => rw [plug_bound]; simp [t_impl_plug, Ty.av, ↓zp, zs, hasK, Det]
    | plus a b =>
      have hL := S_left a.av b.av ea 43 (mk []) 0 ((ty_has _).mpr trivial) he.has
      have hR := S_right a.av b.av ea 43 (mk []) 0 ((ty_has _).mpr trivial) he.has
      rcases ctx_plus hc with ⟨x, rfl, hx⟩ | ⟨x, rfl, hx⟩
      · simp only [Vl.nodes] at hm
        simp only [t_impl_plug, Ty.av, ↓zp, zs, hasK]
        refine ⟨by omega, fun _ => ?_, fun h => absurd rfl h⟩
        refine wp_det hL ?_
        simp only [↓zp, zs, hasK, hasL, ty_has, he.has, Vl.iav, vl_has]
        refine ⟨by omega, fun h => by omega, fun _ => ⟨by omega, by omega, ?_⟩⟩
        refine wp_det (S_plug m x (by omega) a v hx ea ids he s fr hf) ?_
        simp only [↓zp, zs, hasK, vl_has]
        refine wp_det (S_with 108 _ ((vl_has _).mpr trivial)) ?_
        simp [↓zp, zs, hasK, Det, plug, Vl.iav, has_ptr]
      · simp only [Vl.nodes] at hm
        simp only [t_impl_plug, Ty.av, ↓zp, zs, hasK]
        refine ⟨by omega, fun _ => ?_, fun h => absurd rfl h⟩
        refine wp_det hL ?_
        simp only [↓zp, zs, hasK, hasL, ty_has, he.has, Vl.iav, vl_has]
        refine ⟨by omega, fun _ => ?_, fun h => absurd rfl h⟩
        refine wp_det hR ?_
        simp only [↓zp, zs, hasK, hasL, ty_has, he.has, Vl.iav, vl_has]
        refine ⟨by omega, by omega, ?_⟩
        refine wp_det (S_plug m x (by omega) b v hx ea ids he s fr hf) ?_
        simp only [↓zp, zs, hasK, vl_has]
        refine wp_det (S_with 114 _ ((vl_has _).mpr trivial)) ?_
        simp [↓zp, zs, hasK, Det, plug, Vl.iav, has_ptr]
    | times a b =>
      have hL := S_left a.av b.av ea 42 (mk []) 0 ((ty_has _).mpr trivial) he.has
      have hR := S_right a.av b.av ea 42 (mk []) 0 ((ty_has _).mpr trivial) he.has
      rcases ctx_times hc with ⟨x, y, rfl, hx⟩ | ⟨x, y, rfl, hx⟩
      · simp only [Vl.nodes] at hm
        simp only [t_impl_plug, Ty.av, ↓zp, zs, hasK, Vl.iav]
        refine ⟨by omega, fun h => by omega, fun _ => ⟨fun _ => ⟨by omega, fun _ => ?_, fun h => absurd rfl h⟩, fun h => absurd rfl h⟩⟩
        refine wp_det hL ?_
        simp only [↓zp, zs, hasK, hasL, ty_has, he.has, Vl.iav, vl_has]
        repeat refine ⟨by omega, ?_⟩
        refine wp_det (S_plug m x (by omega) a v hx ea ids he s fr hf) ?_
        simp only [↓zp, zs, hasK, vl_has]
        repeat refine ⟨by omega, ?_⟩
        refine wp_det (S_pair _ _ ((vl_has _).mpr trivial) ((vl_has _).mpr trivial)) ?_
        simp [↓zp, zs, hasK, Det, plug, Vl.iav, has_ptr]
      · simp only [Vl.nodes] at hm
        simp only [t_impl_plug, Ty.av, ↓zp, zs, hasK, Vl.iav, vl_has]
        refine ⟨by omega, fun h => by omega, fun _ => ⟨fun _ => ⟨by omega, fun h => by omega, fun _ => ?_⟩, fun h => absurd rfl h⟩⟩
        repeat refine ⟨by omega, ?_⟩
        refine wp_det hR ?_
        simp only [↓zp, zs, hasK, hasL, ty_has, he.has, Vl.iav, vl_has]
        repeat refine ⟨by omega, ?_⟩
        refine wp_det (S_plug m y (by omega) b v hx ea ids he s fr hf) ?_
        simp only [↓zp, zs, hasK, vl_has]
        refine wp_det (S_pair _ _ ((vl_has _).mpr trivial) ((vl_has _).mpr trivial)) ?_
        simp [↓zp, zs, hasK, Det, plug, Vl.iav, has_ptr]
    | rc a =>
      have hin := S_insideI a ea ids he
      simp only [Ty.av] at hin
      rcases ctx_rc hc with ⟨x, rfl, hx⟩ | ⟨x, y, rfl, hx, hy⟩
      · simp only [Vl.nodes] at hm
        simp only [t_impl_plug, Ty.av, ↓zp, zs, hasK, Vl.iav, vl_has]
        refine ⟨by omega, fun h => by omega, fun _ => ⟨fun h => by omega, fun _ => ⟨fun _ => ?_, fun h => absurd rfl h⟩⟩⟩
        refine wp_call hin (by have := InR.ne a ea ids; simpa only [InR, Ty.av] using this) ?_
        intro r o hr
        obtain ⟨⟨q, hq, rfl⟩, rfl⟩ := hr
        have he2 : EnvA (.ptr [.pid q [(Ty.rc a).av, ea], ea]) (q :: ids) := .cons hq he
        have hfr : LK.ptr.has (.pid q [(Ty.rc a).av, ea]) := .inr (.inr ⟨_, _, rfl⟩)
        simp only [Ty.av] at he2 hfr
        simp only [↓zp, zs, hasK, hasL, ty_has, he2.has, hfr, Vl.iav, vl_has, Ty.av]
        repeat refine ⟨by omega, ?_⟩
        refine ⟨fun _ => ?_, fun h => absurd rfl h⟩
        repeat refine ⟨by omega, ?_⟩
        refine wp_det (S_plug m x (by omega) a v hx _ _ he2 s fr hf) ?_
        simp only [↓zp, zs, hasK, vl_has]
        refine wp_det (S_with 102 _ ((vl_has _).mpr trivial)) ?_
        simp [↓zp, zs, hasK, Det, plug, Vl.iav, has_ptr]
      · simp only [Vl.nodes] at hm
        simp only [t_impl_plug, Ty.av, ↓zp, zs, hasK, Vl.iav, vl_has]
        refine ⟨by omega, fun h => by omega, fun _ => ⟨fun h => by omega, fun _ => ⟨fun _ => ?_, fun h => absurd rfl h⟩⟩⟩
        refine wp_call hin (by have := InR.ne a ea ids; simpa only [InR, Ty.av] using this) ?_
        intro r o hr
        obtain ⟨⟨q, hq, rfl⟩, rfl⟩ := hr
        have he2 : EnvA (.ptr [.pid q [(Ty.rc a).av, ea], ea]) (q :: ids) := .cons hq he
        have hfr : LK.ptr.has (.pid q [(Ty.rc a).av, ea]) := .inr (.inr ⟨_, _, rfl⟩)
        simp only [Ty.av] at he2 hfr
        simp only [↓zp, zs, hasK, hasL, ty_has, he2.has, hfr, Vl.iav, vl_has, Ty.av]
        repeat refine ⟨by omega, ?_⟩
        refine fun _ => ?_
        repeat refine ⟨by omega, ?_⟩
        have i1 := S_plug m y (by omega) (.rc a) v hy ea ids he s fr hf
        simp only [Ty.av] at i1
        refine wp_det i1 ?_
        simp only [↓zp, zs, hasK, vl_has]
        repeat refine ⟨by omega, ?_⟩
        refine wp_det (S_plug m x (by omega) a (plug (.rc a) y v) hx _ _ he2 [] _ hfr) ?_
        simp only [↓zp, zs, hasK, vl_has]
        refine wp_det (S_with 102 _ ((vl_has _).mpr trivial)) ?_
        simp [↓zp, zs, hasK, Det, plug, Vl.iav, has_ptr]
theorem S_loopPlug (a : Ty) (c v : Vl) (hc : ctxOk a c = true) : FSpec Tryz.prog n_impl_loopPlug [(Ty.rc a).av, c.iav, v.iav] [] (Det (Vl.f (plug a c v)).iav) := by
  refine F_impl_loopPlug _ _ _ ((ty_has _).mpr trivial) ((vl_has _).mpr trivial) ((vl_has _).mpr trivial) ?_
  unfold t_impl_loopPlug
  refine wp_call (S_insideI a nilp [] .nil) (InR.ne a nilp []) ?_
  rintro r o ⟨⟨m, hm, rfl⟩, rfl⟩
  have he2 : EnvA (.ptr [.pid m [(Ty.rc a).av, nilp], nilp]) [m] := .cons hm .nil
  have hfr : LK.ptr.has (.pid m [(Ty.rc a).av, nilp]) := .inr (.inr ⟨_, _, rfl⟩)
  simp only [Ty.av] at he2 hfr
  simp only [↓zp, zs, hasK, hasL, ty_has, he2.has, hfr, Ty.av]
  repeat refine ⟨by omega, ?_⟩
  refine wp_det (S_plug c.nodes c (Nat.le_refl _) a v hc _ _ he2 [] _ hfr) ?_
  simp only [↓zp, zs, hasK, vl_has]
  refine wp_det (S_with 102 _ ((vl_has _).mpr trivial)) ?_
  simp [↓zp, zs, hasK, Det, Vl.iav, has_ptr]
end Go.Proofs.Trees
