/-
  'laws.FnChangePut' returns true for all arguments, and the arguments read behind the call as they read before; the listed tables are tied to the program's text. No condition.
-/
import Derived.Test.YthcjhageibaepabGreatDoorRFnChangePutb
import Derived.ProofKit
import Derived.OpenShut
import Derived.Deep.DeepHandedRow
import Derived.Test.YthcjhageibaepabGreatDoorCards
import Derived.Test.YthcjhageibaepabGreatDoorTie
set_option linter.unusedVariables false
set_option linter.unusedSimpArgs false
namespace Go.Proofs.YthcjhageibaepabGreatDoor.fnChangePutLaw
open Go Go.VL Go.ChangeShapes Go.WideShapes Go.ChangeAt Go.RowKit Go.ChangeMaps Go.Proofs.Trees
theorem said:Rows.FnChangePutSaid :=
 OpenClaim.holds_of_cond 5 Tryz.f5 rfl rfl rfl rfl rfl rfl rfl ⟨rfl,rfl,rfl,rfl,rfl⟩ rfl rfl rfl rfl rfl (by kernel_rfl) Tryz.func5 (by kernel_rfl)
  (of_decide_eq_true (by kernel_rfl)) (by unfold Func.isWrapper;first|(rw[if_pos (by decide +kernel)];kernel_rfl)|(rw[if_neg (by decide +kernel)];exact⟨rfl,rfl⟩))
  (fun os started H enc _ F=>by rw[OpenClaim.pre_eq_preRow];exact lifted os started H enc F)
end Go.Proofs.YthcjhageibaepabGreatDoor.fnChangePutLaw
