/-
  Part of a proof: laws over values.
-/
import Derived.Test.YtcbmbafopahijaaGreatDoorL3
set_option linter.unusedVariables false
set_option linter.unusedSimpArgs false
namespace Go.Proofs.Trees
open Go Go.VL Go.RowKit
theorem LS_depthS (l : List Pt) (hl : l.length ≤ 1000) : ∀ (k i d : Nat), i + k = l.length → LS_spec_PartsDepth_1 [.sl (chAV l), .v (.int .i64 (d : Int)), .v (.int .i64 (i : Int))] [] (LIs 1 [.v (.int .i64 (deep (l.drop i) d : Nat))] [])
  | 0, i, d, hi => by
    refine G_spec_PartsDepth_1 _ _ _ ?_
    have : i = l.length := by omega
    subst this
    simp only [r_spec_PartsDepth_1, ↓zp, zs, hasK, chAV_len]
    exact ⟨fun h => by omega, fun _ => by simp [LIs, deep]⟩
  | k + 1, i, d, hi => by
    have hlt : i < l.length := by omega
    refine G_spec_PartsDepth_1 _ _ _ ?_
    simp only [r_spec_PartsDepth_1, ↓zp, zs, hasK, zt, chAV_len, chAV_get hlt, intsAV_len]
    refine ⟨fun _ => ?_, fun h => by omega⟩
    repeat refine ⟨by omega, ?_⟩
    rw [wrap_succ i (by omega), List.drop_eq_getElem_cons hlt, deep]
    have := LS_depthS l hl k (i + 1) (if (l[i]).2.length > d then (l[i]).2.length else d) (by omega)
    have e : (if ((l[i]).2.length : Int) > (d : Int) then ((l[i]).2.length : Int) else (d : Int)) = ((if (l[i]).2.length > d then (l[i]).2.length else d : Nat) : Int) := by split <;> split <;> omega
    rw [e]; exact this
theorem S_PartsDepthS (s v : List UInt8) : FSpec Tryz.prog n_spec_PartsDepth [.v (.string (mk s)), .v (.string (mk v))] [] (Det (.v (.int .i64 (depR s v)))) := by
  refine F_spec_PartsDepth _ _ ?_
  unfold t_spec_PartsDepth
  refine wp_call (S_l7All s v) (PoR.ne _ s v) ?_
  rintro r o ⟨rfl, x, hx, rfl, hl⟩
  cases h : partsR s v with
  | none => simp [↓zp, zs, hasK, hx, depR, h, Det]
  | some l =>
    rw [hl l h]
    have := (partsR_mem h).1
    simp only [↓zp, zs, hasK, Option.isSome_some, chAV_len]
    refine ⟨fun h => (by cases h), fun _ => ?_⟩
    refine wp_loop1 (LS_depthS l (by omega) l.length 0 0 (by omega)) ?_
    simp [↓zp, zs, hasK, depR, h, Det]
theorem S_FnExactPartsDepth (s v : List UInt8) : FSpec Tryz.prog n_laws_FnExactPartsDepth [.v (.string (mk s)), .v (.string (mk v))] [] (Det (.v (.bool true))) := by
  refine F_laws_FnExactPartsDepth _ _ ?_
  simp only [t_laws_FnExactPartsDepth, ↓zp, zs, hasK, zt, Det]
  refine ⟨fun _ => trivial, fun h => ⟨fun _ => trivial, fun h => ?_⟩⟩
  refine wp_det (S_PartsDepthS s v) ?_
  simp only [↓zp, zs, hasK]
  refine wp_det (S_PartsDepthI s v) ?_
  simp [↓zp, zs, hasK]
end Go.Proofs.Trees
