/-
  DERIVED. GIVEN WITH THE SEED: THE CARDS: each row of YthcjhageibaepabGreatDoorRows.lean that lists a variable, with what it lists TIED to the program's text (the seventh form; the later family's looks); each row that meets fmt, with fmt's text TOLD by the authors' own Lean function (tested against real Go, not proved from fmt's source: count such statements apart). THE CARD IS WHAT COUNTS. Prove the row's statement (the work); the ties are given (YthcjhageibaepabGreatDoorTie.lean); close each card by the builder's one call (the guide's Derived/Test/ToyasCard.lean, 'card_holds'). Laid BY PROGRAM, IN A SANDBOX (cutbox-door.mjs). By AI agents, Wed Nov 11 2026. No macro, syntax, notation, axiom, sorry.
-/
import Derived.Test.YthcjhageibaepabGreatDoorRows
import GoSem.ClaimSeven
namespace Go.Proofs.YthcjhageibaepabGreatDoor
namespace Rows

/-- THE TIED CARD OF 'laws.FnChange'. -/
def fnChangeCard : Claim7 := { stood := { row := fnChangeRow, standIns := [], harness := (true, "0fb4939d8e27ea3edcbeb006eccf072615da411a071c5739eb87be6884fc3438"), looks := true }, kinds := [], alts := [], laidByText := true, laidKinds := [.data, .data, .data, .data, .sentinel, .sentinel, .pinned], laidTests := true, laidLooks := .later }
def FnChangeCardSaid : Prop := Claim7.holds Tryz.pinned (.plain (OpenSpec.ofChange fnChangeSpec)) fnChangeCard

/-- THE TIED CARD OF 'laws.FnHolesLoop'. -/
def fnHolesLoopCard : Claim7 := { stood := { row := fnHolesLoopRow, standIns := [], harness := (true, "0fb4939d8e27ea3edcbeb006eccf072615da411a071c5739eb87be6884fc3438"), looks := true }, kinds := [], alts := [], laidByText := true, laidKinds := [.data, .data, .data, .data, .sentinel, .sentinel, .pinned], laidTests := true, laidLooks := .later }
def FnHolesLoopCardSaid : Prop := Claim7.holds Tryz.pinned (.plain (OpenSpec.ofChange fnHolesLoopSpec)) fnHolesLoopCard

/-- THE TIED CARD OF 'laws.FnChangePut'. -/
def fnChangePutCard : Claim7 := { stood := { row := fnChangePutRow, standIns := [], harness := (true, "0fb4939d8e27ea3edcbeb006eccf072615da411a071c5739eb87be6884fc3438"), looks := true }, kinds := [], alts := [], laidByText := true, laidKinds := [.data, .data, .data, .data, .sentinel, .sentinel, .pinned], laidTests := true, laidLooks := .later }
def FnChangePutCardSaid : Prop := Claim7.holds Tryz.pinned (.plain (OpenSpec.ofChange fnChangePutSpec)) fnChangePutCard

/-- THE SECOND FORM's CARD OF 'laws.FnChange'. -/
def fnChangeUptoCard : Claim7 := { stood := { row := fnChangeUptoRow, standIns := [], harness := (true, "0fb4939d8e27ea3edcbeb006eccf072615da411a071c5739eb87be6884fc3438"), looks := true }, kinds := [], alts := [], laidByText := true, laidKinds := [.data, .data, .data, .data, .sentinel, .sentinel, .pinned], laidTests := true, laidLooks := .later }
def FnChangeUptoCardSaid : Prop := Claim7.holds Tryz.pinned (.plain (OpenSpec.upto fnChangeSpec)) fnChangeUptoCard

/-- THE SECOND FORM's CARD OF 'laws.FnHolesLoop'. -/
def fnHolesLoopUptoCard : Claim7 := { stood := { row := fnHolesLoopUptoRow, standIns := [], harness := (true, "0fb4939d8e27ea3edcbeb006eccf072615da411a071c5739eb87be6884fc3438"), looks := true }, kinds := [], alts := [], laidByText := true, laidKinds := [.data, .data, .data, .data, .sentinel, .sentinel, .pinned], laidTests := true, laidLooks := .later }
def FnHolesLoopUptoCardSaid : Prop := Claim7.holds Tryz.pinned (.plain (OpenSpec.upto fnHolesLoopSpec)) fnHolesLoopUptoCard

/-- THE SECOND FORM's CARD OF 'laws.FnChangePut'. -/
def fnChangePutUptoCard : Claim7 := { stood := { row := fnChangePutUptoRow, standIns := [], harness := (true, "0fb4939d8e27ea3edcbeb006eccf072615da411a071c5739eb87be6884fc3438"), looks := true }, kinds := [], alts := [], laidByText := true, laidKinds := [.data, .data, .data, .data, .sentinel, .sentinel, .pinned], laidTests := true, laidLooks := .later }
def FnChangePutUptoCardSaid : Prop := Claim7.holds Tryz.pinned (.plain (OpenSpec.upto fnChangePutSpec)) fnChangePutUptoCard
end Rows
end Go.Proofs.YthcjhageibaepabGreatDoor
