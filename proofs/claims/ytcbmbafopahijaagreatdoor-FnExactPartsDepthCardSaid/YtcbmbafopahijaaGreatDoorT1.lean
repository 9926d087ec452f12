/-
  Part of a proof: laws over values.
-/
import Derived.Test.YtcbmbafopahijaaGreatDoorV1
set_option linter.unusedVariables false
set_option linter.unusedSimpArgs false
namespace Go.Proofs.Trees
open Go Go.VL Go.RowKit
/-! ### The text of a value -/
/-- A text, or none. -/
def optS : Option (List UInt8) → AV
  | some s => .tup [.v (.string (mk s)), .v (.bool true)]
  | none => .tup [.v (.string (mk [])), .v (.bool false)]
end Go.Proofs.Trees
