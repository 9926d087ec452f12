/-
  Part of a proof: laws over values.
-/
import Derived.Test.YtcbmbafopahijabGreatDoorV1
set_option linter.unusedVariables false
set_option linter.unusedSimpArgs false
namespace Go.Proofs.Trees
open Go Go.VL Go.RowKit
theorem S_with (b : Int) (a : AV) (h : LK.ptr.has a) : FSpec Tryz.prog n_impl_with [.v (.int .u8 b), a] [] (Det (.ptr [.v (.int .u8 b), .v (.string (mk [])), a, nilp])) := by
  refine F_impl_with _ _ h ?_
  simp [t_impl_with, ↓zp, zs, hasK, Det]
end Go.Proofs.Trees
