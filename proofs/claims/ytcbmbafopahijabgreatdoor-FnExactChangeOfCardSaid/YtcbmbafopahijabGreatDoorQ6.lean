/-
  Part of a proof: laws over values.
-/
import Derived.Test.YtcbmbafopahijabGreatDoorQ5
set_option linter.unusedVariables false
set_option linter.unusedSimpArgs false
namespace Go.Proofs.Trees
open Go Go.VL
def DetO (v : AV) (obs : List Ob) : AV → List Ob → Prop := fun r o => r = v ∧ o = obs
theorem wp_detO {P : Program} {n : Nat} {Q : Nat → List AV → List Ob → Prop} {f : Nat} {xs : List AV} {ins : List Ob} {k : AV → List Ob → Tree} {v : AV} {obs : List Ob} (h : FSpec P f xs ins (DetO v obs)) (hk : wpT P n (k v obs) Q) : wpT P n (.call f xs ins k) Q :=
  ⟨DetO v obs, h, ⟨v, obs, rfl, rfl⟩, fun r o ⟨h1, h2⟩ => by rw [h1, h2]; exact hk⟩
def Ty.atoms : Ty → Nat
  | .plus a b => 1 + a.atoms + b.atoms
  | .times a b => 1 + a.atoms + b.atoms
  | .rc a => 2 + a.atoms
  | _ => 1
theorem S_atoms : ∀ (t : Ty), t.atoms < 1000000 → FSpec Tryz.prog n_impl_ty_atoms [t.av] [] (Det (.v (.int .i64 (t.atoms : Int))))
  | .zero, h => by refine F_impl_ty_atoms _ ((ty_has _).mpr trivial) ?_; simp [t_impl_ty_atoms, Ty.av, ↓zp, zs, hasK, Det, Ty.atoms]
  | .one, h => by refine F_impl_ty_atoms _ ((ty_has _).mpr trivial) ?_; simp [t_impl_ty_atoms, Ty.av, ↓zp, zs, hasK, Det, Ty.atoms]
  | .name s, h => by refine F_impl_ty_atoms _ ((ty_has _).mpr trivial) ?_; simp [t_impl_ty_atoms, Ty.av, ↓zp, zs, hasK, Det, Ty.atoms]
  | .bound u, h => by refine F_impl_ty_atoms _ ((ty_has _).mpr trivial) ?_; simp [t_impl_ty_atoms, Ty.av, ↓zp, zs, hasK, Det, Ty.atoms]
  | .plus a b, h => by
    simp only [Ty.atoms] at h
    refine F_impl_ty_atoms _ ((ty_has _).mpr trivial) ?_
    simp only [t_impl_ty_atoms, Ty.av, ↓zp, zs, hasK, ty_has]
    refine ⟨by omega, fun _ => ⟨by omega, ?_⟩, fun h => absurd rfl h⟩
    refine wp_det (S_atoms a (by omega)) ?_
    simp only [↓zp, zs, hasK, ty_has]
    refine ⟨by omega, ?_⟩
    refine wp_det (S_atoms b (by omega)) ?_
    simp only [↓zp, zs, hasK, Det, Ty.atoms]
    rw [wrap64 (1 + (a.atoms : Int)) (by omega) (by omega), wrap64 _ (by omega) (by omega)]
    congr 2
  | .times a b, h => by
    simp only [Ty.atoms] at h
    refine F_impl_ty_atoms _ ((ty_has _).mpr trivial) ?_
    simp only [t_impl_ty_atoms, Ty.av, ↓zp, zs, hasK, ty_has]
    refine ⟨by omega, fun h => by omega, fun _ => ⟨fun _ => ⟨by omega, ?_⟩, fun h => absurd rfl h⟩⟩
    refine wp_det (S_atoms a (by omega)) ?_
    simp only [↓zp, zs, hasK, ty_has]
    refine ⟨by omega, ?_⟩
    refine wp_det (S_atoms b (by omega)) ?_
    simp only [↓zp, zs, hasK, Det, Ty.atoms]
    rw [wrap64 (1 + (a.atoms : Int)) (by omega) (by omega), wrap64 _ (by omega) (by omega)]
    congr 2
  | .rc a, h => by
    simp only [Ty.atoms] at h
    refine F_impl_ty_atoms _ ((ty_has _).mpr trivial) ?_
    simp only [t_impl_ty_atoms, Ty.av, ↓zp, zs, hasK, ty_has]
    refine ⟨by omega, fun h => by omega, fun _ => ⟨fun h => by omega, fun _ => ⟨fun _ => ⟨by omega, ?_⟩, fun h => absurd rfl h⟩⟩⟩
    refine wp_det (S_atoms a (by omega)) ?_
    simp only [↓zp, zs, hasK, Det, Ty.atoms]
    rw [wrap64 _ (by omega) (by omega)]
    congr 2
theorem tyOf_atoms : ∀ (e : E) (ar : List (List UInt8)) (t : Ty), tyOf e ar = some t → t.atoms ≤ e.sz
  | .atom s, ar, t, h => by
    simp only [tyOf] at h
    simp only [E.sz]
    split at h
    · cases h; simp [Ty.atoms]
    · split at h
      · cases h; simp [Ty.atoms]
      · split at h
        · cases h; simp [Ty.atoms]
        · split at h
          · split at h <;> cases h <;> simp [Ty.atoms]
          · cases h
  | .list [x, a, b], ar, t, h => by
    have hs : ∀ e : E, 1 ≤ e.sz := fun e => by cases e <;> simp [E.sz]; try omega
    have hx := hs x
    have ha := hs a
    simp only [E.sz, E.szs]
    by_cases h1 : x.at = [43]
    · rw [tyOf_plus ar h1] at h
      split at h
      · rename_i t1 t2 e1 e2
        cases h
        have := tyOf_atoms a ar t1 e1
        have := tyOf_atoms b ar t2 e2
        simp only [Ty.atoms]; omega
      · cases h
    · by_cases h2 : x.at = [42]
      · rw [tyOf_times ar h2] at h
        split at h
        · rename_i t1 t2 e1 e2
          cases h
          have := tyOf_atoms a ar t1 e1
          have := tyOf_atoms b ar t2 e2
          simp only [Ty.atoms]; omega
        · cases h
      · by_cases h3 : x.at = [114, 101, 99]
        · rw [tyOf_rec ar h3] at h
          split at h
          · split at h
            · rename_i t1 e1
              cases h
              have := tyOf_atoms b _ t1 e1
              simp only [Ty.atoms]; omega
            · cases h
          · cases h
        · rw [tyOf_no ar h1 h2 h3] at h; cases h
  | .list [], _, _, h => by cases h
  | .list [_], _, _, h => by cases h
  | .list [_, _], _, _, h => by cases h
  | .list (_ :: _ :: _ :: _ :: _), _, _, h => by cases h
/-- A text's type. -/
def rdY (s : List UInt8) : Option Ty := match rdT s with
  | none => none
  | some e => match tyOf e [] with
    | none => none
    | some t => if t.atoms > 400 then none else some t
theorem S_readType (s : List UInt8) : FSpec Tryz.prog n_impl_readType [.v (.string (mk s))] [] (Det (optT (rdY s))) := by
  refine F_impl_readType _ ?_
  unfold t_impl_readType
  refine wp_det (S_readText s) ?_
  unfold rdY
  cases he : rdT s with
  | none => simp only [optP, ↓zp, zs, hasK, Det, optT]; simp
  | some e =>
    obtain ⟨h1, h2⟩ := rdT_ok he
    simp only [optP, ↓zp, zs, hasK, iav_has, iav_nil]
    refine ⟨fun h => (by cases h), fun _ => ?_⟩
    refine wp_det (S_typeOf e [] _ h1 .nil (by simp; omega)) ?_
    cases ht : tyOf e [] with
    | none => simp only [optT, ↓zp, zs, hasK, Det]; simp
    | some t =>
      have := tyOf_atoms e [] t ht
      simp only [optT, ↓zp, zs, hasK, ty_has, ty_nil]
      refine ⟨fun h => (by cases h), fun _ => ?_⟩
      refine wp_det (S_atoms t (by omega)) ?_
      simp only [↓zp, zs, hasK, Det]
      refine ⟨fun h => ?_, fun h => ?_⟩
      · rw [if_pos (by omega)]
      · rw [if_neg (by omega)]
end Go.Proofs.Trees
