/-
  DERIVED. GIVEN WITH THE SEED: THE CARDS: each row of YtggigekpnbafbaaGreatDoorRows.lean that lists a variable, with what it lists TIED to the program's text (the seventh form; the later family's looks); each row that meets fmt, with fmt's text TOLD by the authors' own Lean function (tested against real Go, not proved from fmt's source: count such statements apart). THE CARD IS WHAT COUNTS. Prove the row's statement (the work); the ties are given (YtggigekpnbafbaaGreatDoorTie.lean); close each card by the builder's one call (the guide's Derived/Test/ToyasCard.lean, 'card_holds'). Laid BY PROGRAM, IN A SANDBOX (cutbox-door.mjs). By AI agents, Wed Nov 11 2026. No macro, syntax, notation, axiom, sorry.
-/
import Derived.Test.YtggigekpnbafbaaGreatDoorRows
import GoSem.ClaimSeven
namespace Go.Proofs.YtggigekpnbafbaaGreatDoor
namespace Rows

/-- THE TIED CARD OF 'laws.FnExecuteValue'. -/
def fnExecuteValueCard : Claim7 := { stood := { row := fnExecuteValueRow, standIns := [], harness := (true, "d86e3622f381435aa05aa3040deef5e3b9bde32c7226c7cd83913e1053a9ef9e"), looks := true }, kinds := [], alts := [], laidByText := true, laidKinds := [.data, .data, .data, .data, .sentinel, .sentinel, .pinned], laidTests := true, laidLooks := .later }
def FnExecuteValueCardSaid : Prop := Claim7.holds Tryz.pinned (.plain (OpenSpec.ofChange fnExecuteValueSpec)) fnExecuteValueCard

/-- THE SECOND FORM's CARD OF 'laws.FnExecuteValue'. -/
def fnExecuteValueUptoCard : Claim7 := { stood := { row := fnExecuteValueUptoRow, standIns := [], harness := (true, "d86e3622f381435aa05aa3040deef5e3b9bde32c7226c7cd83913e1053a9ef9e"), looks := true }, kinds := [], alts := [], laidByText := true, laidKinds := [.data, .data, .data, .data, .sentinel, .sentinel, .pinned], laidTests := true, laidLooks := .later }
def FnExecuteValueUptoCardSaid : Prop := Claim7.holds Tryz.pinned (.plain (OpenSpec.upto fnExecuteValueSpec)) fnExecuteValueUptoCard
end Rows
end Go.Proofs.YtggigekpnbafbaaGreatDoor
