/-
  Part of a proof: laws over values.
-/
import Derived.Test.YtcbmbafopahijaaGreatDoorL3
import Derived.Test.YtcbmbafopahijaaGreatDoorM1
set_option linter.unusedVariables false
set_option linter.unusedSimpArgs false
namespace Go.Proofs.Trees
open Go Go.VL Go.RowKit
theorem ptxts_snoc (l : List Pt) (p : Pt) : ptxts (l ++ [p]) = ptxts l ++ [p.1.txt] := by simp [ptxts]
theorem LS_partsS (l : List Pt) (hl : l.length ≤ 1000) : ∀ (k i : Nat) (out : List (List UInt8)), i + k = l.length → out.length + k ≤ 1000 →
    LS_spec_PartsOf_1 [.sl (chAV l), .v (.bool true), .v (.int .i64 (i : Int))] [.vec 1 (strsAV out)] (LIs 1 [.v (.bool true)] [.vec 1 (strsAV (out ++ ptxts (l.drop i)))])
  | 0, i, out, hi, ho => by
    refine G_spec_PartsOf_1 _ _ _ _ ?_
    have : i = l.length := by omega
    subst this
    simp only [r_spec_PartsOf_1, ↓zp, zs, hasK, chAV_len]
    exact ⟨fun h => by omega, fun _ => by simp [LIs, ptxts]⟩
  | k + 1, i, out, hi, ho => by
    have hlt : i < l.length := by omega
    refine G_spec_PartsOf_1 _ _ _ _ ?_
    simp only [r_spec_PartsOf_1, ↓zp, zs, hasK, zt, chAV_len, chAV_get hlt, strsAV_len, S_append]
    refine ⟨fun _ => ⟨fun _ => ?_, fun h => (by cases h)⟩, fun h => by omega⟩
    repeat refine ⟨by omega, ?_⟩
    refine ⟨⟨allLen1 _, by omega⟩, ?_⟩
    have := LS_partsS l hl k (i + 1) (out ++ [(l[i]).1.txt]) (by omega) (by simp; omega)
    rw [wrap_succ i (by omega), List.drop_eq_getElem_cons hlt]
    rw [List.append_assoc] at this
    exact this
theorem S_PartsOfS (s v : List UInt8) : FSpec Tryz.prog n_spec_PartsOf [.v (.string (mk s)), .v (.string (mk v))] [] (Det (.tup [.sl (strsAV (ptx s v)), .v (.bool (partsR s v).isSome)])) := by
  refine F_spec_PartsOf _ _ ?_
  unfold t_spec_PartsOf
  refine wp_call (S_l7All s v) (PoR.ne _ s v) ?_
  rintro r o ⟨rfl, x, hx, rfl, hl⟩
  cases h : partsR s v with
  | none =>
    simp only [↓zp, zs, hasK, hx, Option.isSome_none]
    refine wp_loop1 (ys := [.v (.bool false)]) (o := [.vec 1 []]) ?_ ?_
    · refine G_spec_PartsOf_1 _ _ _ _ ?_
      simp only [r_spec_PartsOf_1, ↓zp, zs, hasK, hx]
      exact ⟨fun _ => ⟨fun h => (by cases h), fun _ => ⟨rfl, rfl, rfl⟩⟩, fun _ => ⟨rfl, rfl, rfl⟩⟩
    · simp [↓zp, zs, hasK, Det, ptx, h, strsAV, Ob.es]
  | some l =>
    rw [hl l h]
    have := (partsR_mem h).1
    simp only [↓zp, zs, hasK, Option.isSome_some, chAV_len]
    have := LS_partsS l (by omega) l.length 0 [] (by omega) (by simp; omega)
    rw [List.drop_zero, List.nil_append] at this
    refine wp_loop1 this ?_
    simp [↓zp, zs, hasK, Det, ptx, h, Ob.es]
theorem S_FnExactPartsOf (s v : List UInt8) : FSpec Tryz.prog n_laws_FnExactPartsOf [.v (.string (mk s)), .v (.string (mk v))] [] (Det (.v (.bool true))) := by
  refine F_laws_FnExactPartsOf _ _ ?_
  simp only [t_laws_FnExactPartsOf, ↓zp, zs, hasK, zt, Det]
  refine ⟨fun _ => trivial, fun h => ⟨fun _ => trivial, fun h => ?_⟩⟩
  have hn := ptx_len s v
  have eq : ∀ q : List (List UInt8), q.length ≤ 1000 → FSpec Tryz.prog n_laws_eqStringS [.sl (strsAV q), .sl (strsAV q)] [] (Det (.v (.bool true))) := fun q hq => S_eqStringS _ _ q (.of _) (.of _) (by omega)
  have held := S_heldStringS (.sl (strsAV (mks 1 (ptx s v).length))) 1 (ptx s v).length (.of _) (by omega) (by omega)
  refine wp_det (S_PartsOfS s v) ?_
  simp only [↓zp, zs, hasK]
  refine wp_detO (S_PartsOfI s v) ?_
  simp only [↓zp, zs, hasK, Ob.es, List.headD_cons]
  refine wp_det (eq _ hn) ?_
  simp only [↓zp, zs, hasK]
  refine ⟨fun h => by simp at h, fun _ => ⟨fun h => by simp at h, fun _ => ?_⟩⟩
  refine wp_detO (S_markStringS 1 (ptx s v) (by omega) (by omega)) ?_
  simp only [↓zp, zs, hasK, Ob.es, List.headD_cons]
  refine wp_det held ?_
  simp only [↓zp, zs, hasK]
  refine ⟨fun h => by omega, fun _ => ⟨fun h => by simp at h, fun _ => ?_⟩⟩
  refine wp_detO (S_PartsOfI s v) ?_
  simp only [↓zp, zs, hasK, Ob.es, List.headD_cons]
  refine wp_det (eq _ hn) ?_
  simp only [↓zp, zs, hasK]
  refine ⟨fun h => by simp at h, fun _ => ⟨fun h => by simp at h, fun _ => ?_⟩⟩
  refine wp_det held ?_
  simp only [↓zp, zs, hasK]
  refine ⟨fun h => by omega, fun _ => ⟨fun h => by simp at h, fun _ => ?_⟩⟩
  first | rfl | trivial
end Go.Proofs.Trees
