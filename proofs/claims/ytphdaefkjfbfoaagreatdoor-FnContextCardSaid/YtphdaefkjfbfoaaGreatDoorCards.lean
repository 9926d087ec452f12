/-
  DERIVED. GIVEN WITH THE SEED: THE CARDS: each row of YtphdaefkjfbfoaaGreatDoorRows.lean that lists a variable, with what it lists TIED to the program's text (the seventh form; the later family's looks); each row that meets fmt, with fmt's text TOLD by the authors' own Lean function (tested against real Go, not proved from fmt's source: count such statements apart). THE CARD IS WHAT COUNTS. Prove the row's statement (the work); the ties are given (YtphdaefkjfbfoaaGreatDoorTie.lean); close each card by the builder's one call (the guide's Derived/Test/ToyasCard.lean, 'card_holds'). Laid BY PROGRAM, IN A SANDBOX (cutbox-door.mjs). By AI agents, Wed Nov 11 2026. No macro, syntax, notation, axiom, sorry.
-/
import Derived.Test.YtphdaefkjfbfoaaGreatDoorRows
import GoSem.ClaimSeven
namespace Go.Proofs.YtphdaefkjfbfoaaGreatDoor
namespace Rows

/-- THE TIED CARD OF 'laws.FnCode'. -/
def fnCodeCard : Claim7 := { stood := { row := fnCodeRow, standIns := [], harness := (true, "3d74abd6ea04aa14c4776182d02b3b9ab723f1b415dc1bb4ef91dc4b6fb76607"), looks := true }, kinds := [], alts := [], laidByText := true, laidKinds := [.data, .data, .data, .data, .sentinel, .sentinel, .pinned], laidTests := true, laidLooks := .later }
def FnCodeCardSaid : Prop := Claim7.holds Tryz.pinned (.plain (OpenSpec.ofChange fnCodeSpec)) fnCodeCard

/-- THE TIED CARD OF 'laws.FnContext'. -/
def fnContextCard : Claim7 := { stood := { row := fnContextRow, standIns := [], harness := (true, "3d74abd6ea04aa14c4776182d02b3b9ab723f1b415dc1bb4ef91dc4b6fb76607"), looks := true }, kinds := [], alts := [], laidByText := true, laidKinds := [.data, .data, .data, .data, .sentinel, .sentinel, .pinned], laidTests := true, laidLooks := .later }
def FnContextCardSaid : Prop := Claim7.holds Tryz.pinned (.plain (OpenSpec.ofChange fnContextSpec)) fnContextCard

/-- THE TIED CARD OF 'laws.FnPlug'. -/
def fnPlugCard : Claim7 := { stood := { row := fnPlugRow, standIns := [], harness := (true, "3d74abd6ea04aa14c4776182d02b3b9ab723f1b415dc1bb4ef91dc4b6fb76607"), looks := true }, kinds := [], alts := [], laidByText := true, laidKinds := [.data, .data, .data, .data, .sentinel, .sentinel, .pinned], laidTests := true, laidLooks := .later }
def FnPlugCardSaid : Prop := Claim7.holds Tryz.pinned (.plain (OpenSpec.ofChange fnPlugSpec)) fnPlugCard

/-- THE TIED CARD OF 'laws.FnPlugLoop'. -/
def fnPlugLoopCard : Claim7 := { stood := { row := fnPlugLoopRow, standIns := [], harness := (true, "3d74abd6ea04aa14c4776182d02b3b9ab723f1b415dc1bb4ef91dc4b6fb76607"), looks := true }, kinds := [], alts := [], laidByText := true, laidKinds := [.data, .data, .data, .data, .sentinel, .sentinel, .pinned], laidTests := true, laidLooks := .later }
def FnPlugLoopCardSaid : Prop := Claim7.holds Tryz.pinned (.plain (OpenSpec.ofChange fnPlugLoopSpec)) fnPlugLoopCard

/-- THE TIED CARD OF 'laws.FnExactPartsPlaces'. -/
def fnExactPartsPlacesCard : Claim7 := { stood := { row := fnExactPartsPlacesRow, standIns := [], harness := (true, "3d74abd6ea04aa14c4776182d02b3b9ab723f1b415dc1bb4ef91dc4b6fb76607"), looks := true }, kinds := [], alts := [], laidByText := true, laidKinds := [.data, .data, .data, .data, .sentinel, .sentinel, .pinned], laidTests := true, laidLooks := .later }
def FnExactPartsPlacesCardSaid : Prop := Claim7.holds Tryz.pinned (.plain (OpenSpec.ofChange fnExactPartsPlacesSpec)) fnExactPartsPlacesCard

/-- THE SECOND FORM's CARD OF 'laws.FnCode'. -/
def fnCodeUptoCard : Claim7 := { stood := { row := fnCodeUptoRow, standIns := [], harness := (true, "3d74abd6ea04aa14c4776182d02b3b9ab723f1b415dc1bb4ef91dc4b6fb76607"), looks := true }, kinds := [], alts := [], laidByText := true, laidKinds := [.data, .data, .data, .data, .sentinel, .sentinel, .pinned], laidTests := true, laidLooks := .later }
def FnCodeUptoCardSaid : Prop := Claim7.holds Tryz.pinned (.plain (OpenSpec.upto fnCodeSpec)) fnCodeUptoCard

/-- THE SECOND FORM's CARD OF 'laws.FnContext'. -/
def fnContextUptoCard : Claim7 := { stood := { row := fnContextUptoRow, standIns := [], harness := (true, "3d74abd6ea04aa14c4776182d02b3b9ab723f1b415dc1bb4ef91dc4b6fb76607"), looks := true }, kinds := [], alts := [], laidByText := true, laidKinds := [.data, .data, .data, .data, .sentinel, .sentinel, .pinned], laidTests := true, laidLooks := .later }
def FnContextUptoCardSaid : Prop := Claim7.holds Tryz.pinned (.plain (OpenSpec.upto fnContextSpec)) fnContextUptoCard

/-- THE SECOND FORM's CARD OF 'laws.FnPlug'. -/
def fnPlugUptoCard : Claim7 := { stood := { row := fnPlugUptoRow, standIns := [], harness := (true, "3d74abd6ea04aa14c4776182d02b3b9ab723f1b415dc1bb4ef91dc4b6fb76607"), looks := true }, kinds := [], alts := [], laidByText := true, laidKinds := [.data, .data, .data, .data, .sentinel, .sentinel, .pinned], laidTests := true, laidLooks := .later }
def FnPlugUptoCardSaid : Prop := Claim7.holds Tryz.pinned (.plain (OpenSpec.upto fnPlugSpec)) fnPlugUptoCard

/-- THE SECOND FORM's CARD OF 'laws.FnPlugLoop'. -/
def fnPlugLoopUptoCard : Claim7 := { stood := { row := fnPlugLoopUptoRow, standIns := [], harness := (true, "3d74abd6ea04aa14c4776182d02b3b9ab723f1b415dc1bb4ef91dc4b6fb76607"), looks := true }, kinds := [], alts := [], laidByText := true, laidKinds := [.data, .data, .data, .data, .sentinel, .sentinel, .pinned], laidTests := true, laidLooks := .later }
def FnPlugLoopUptoCardSaid : Prop := Claim7.holds Tryz.pinned (.plain (OpenSpec.upto fnPlugLoopSpec)) fnPlugLoopUptoCard

/-- THE SECOND FORM's CARD OF 'laws.FnExactPartsPlaces'. -/
def fnExactPartsPlacesUptoCard : Claim7 := { stood := { row := fnExactPartsPlacesUptoRow, standIns := [], harness := (true, "3d74abd6ea04aa14c4776182d02b3b9ab723f1b415dc1bb4ef91dc4b6fb76607"), looks := true }, kinds := [], alts := [], laidByText := true, laidKinds := [.data, .data, .data, .data, .sentinel, .sentinel, .pinned], laidTests := true, laidLooks := .later }
def FnExactPartsPlacesUptoCardSaid : Prop := Claim7.holds Tryz.pinned (.plain (OpenSpec.upto fnExactPartsPlacesSpec)) fnExactPartsPlacesUptoCard
end Rows
end Go.Proofs.YtphdaefkjfbfoaaGreatDoor
