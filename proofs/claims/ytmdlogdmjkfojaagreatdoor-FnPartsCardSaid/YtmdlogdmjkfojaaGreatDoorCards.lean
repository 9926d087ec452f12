/-
  DERIVED. GIVEN WITH THE SEED: THE CARDS: each row of YtmdlogdmjkfojaaGreatDoorRows.lean that lists a variable, with what it lists TIED to the program's text (the seventh form; the later family's looks); each row that meets fmt, with fmt's text TOLD by the authors' own Lean function (tested against real Go, not proved from fmt's source: count such statements apart). THE CARD IS WHAT COUNTS. Prove the row's statement (the work); the ties are given (YtmdlogdmjkfojaaGreatDoorTie.lean); close each card by the builder's one call (the guide's Derived/Test/ToyasCard.lean, 'card_holds'). Laid BY PROGRAM, IN A SANDBOX (cutbox-door.mjs). By AI agents, Wed Nov 11 2026. No macro, syntax, notation, axiom, sorry.
-/
import Derived.Test.YtmdlogdmjkfojaaGreatDoorRows
import GoSem.ClaimSeven
namespace Go.Proofs.YtmdlogdmjkfojaaGreatDoor
namespace Rows

/-- THE TIED CARD OF 'laws.FnGo'. -/
def fnGoCard : Claim7 := { stood := { row := fnGoRow, standIns := [], harness := (true, "7f2b26ca43eddbf3e98c8a67ff40c347a092ba0a55218bc25b4b479625f26bff"), looks := true }, kinds := [], alts := [], laidByText := true, laidKinds := [.data, .data, .data, .data, .sentinel, .sentinel, .pinned], laidTests := true, laidLooks := .later }
def FnGoCardSaid : Prop := Claim7.holds Tryz.pinned (.plain (OpenSpec.ofChange fnGoSpec)) fnGoCard

/-- THE TIED CARD OF 'laws.FnParts'. -/
def fnPartsCard : Claim7 := { stood := { row := fnPartsRow, standIns := [], harness := (true, "7f2b26ca43eddbf3e98c8a67ff40c347a092ba0a55218bc25b4b479625f26bff"), looks := true }, kinds := [], alts := [], laidByText := true, laidKinds := [.data, .data, .data, .data, .sentinel, .sentinel, .pinned], laidTests := true, laidLooks := .later }
def FnPartsCardSaid : Prop := Claim7.holds Tryz.pinned (.plain (OpenSpec.ofChange fnPartsSpec)) fnPartsCard

/-- THE TIED CARD OF 'laws.FnPartsPlaces'. -/
def fnPartsPlacesCard : Claim7 := { stood := { row := fnPartsPlacesRow, standIns := [], harness := (true, "7f2b26ca43eddbf3e98c8a67ff40c347a092ba0a55218bc25b4b479625f26bff"), looks := true }, kinds := [], alts := [], laidByText := true, laidKinds := [.data, .data, .data, .data, .sentinel, .sentinel, .pinned], laidTests := true, laidLooks := .later }
def FnPartsPlacesCardSaid : Prop := Claim7.holds Tryz.pinned (.plain (OpenSpec.ofChange fnPartsPlacesSpec)) fnPartsPlacesCard

/-- THE TIED CARD OF 'laws.FnChange'. -/
def fnChangeCard : Claim7 := { stood := { row := fnChangeRow, standIns := [], harness := (true, "7f2b26ca43eddbf3e98c8a67ff40c347a092ba0a55218bc25b4b479625f26bff"), looks := true }, kinds := [], alts := [], laidByText := true, laidKinds := [.data, .data, .data, .data, .sentinel, .sentinel, .pinned], laidTests := true, laidLooks := .later }
def FnChangeCardSaid : Prop := Claim7.holds Tryz.pinned (.plain (OpenSpec.ofChange fnChangeSpec)) fnChangeCard

/-- THE SECOND FORM's CARD OF 'laws.FnGo'. -/
def fnGoUptoCard : Claim7 := { stood := { row := fnGoUptoRow, standIns := [], harness := (true, "7f2b26ca43eddbf3e98c8a67ff40c347a092ba0a55218bc25b4b479625f26bff"), looks := true }, kinds := [], alts := [], laidByText := true, laidKinds := [.data, .data, .data, .data, .sentinel, .sentinel, .pinned], laidTests := true, laidLooks := .later }
def FnGoUptoCardSaid : Prop := Claim7.holds Tryz.pinned (.plain (OpenSpec.upto fnGoSpec)) fnGoUptoCard

/-- THE SECOND FORM's CARD OF 'laws.FnParts'. -/
def fnPartsUptoCard : Claim7 := { stood := { row := fnPartsUptoRow, standIns := [], harness := (true, "7f2b26ca43eddbf3e98c8a67ff40c347a092ba0a55218bc25b4b479625f26bff"), looks := true }, kinds := [], alts := [], laidByText := true, laidKinds := [.data, .data, .data, .data, .sentinel, .sentinel, .pinned], laidTests := true, laidLooks := .later }
def FnPartsUptoCardSaid : Prop := Claim7.holds Tryz.pinned (.plain (OpenSpec.upto fnPartsSpec)) fnPartsUptoCard

/-- THE SECOND FORM's CARD OF 'laws.FnPartsPlaces'. -/
def fnPartsPlacesUptoCard : Claim7 := { stood := { row := fnPartsPlacesUptoRow, standIns := [], harness := (true, "7f2b26ca43eddbf3e98c8a67ff40c347a092ba0a55218bc25b4b479625f26bff"), looks := true }, kinds := [], alts := [], laidByText := true, laidKinds := [.data, .data, .data, .data, .sentinel, .sentinel, .pinned], laidTests := true, laidLooks := .later }
def FnPartsPlacesUptoCardSaid : Prop := Claim7.holds Tryz.pinned (.plain (OpenSpec.upto fnPartsPlacesSpec)) fnPartsPlacesUptoCard

/-- THE SECOND FORM's CARD OF 'laws.FnChange'. -/
def fnChangeUptoCard : Claim7 := { stood := { row := fnChangeUptoRow, standIns := [], harness := (true, "7f2b26ca43eddbf3e98c8a67ff40c347a092ba0a55218bc25b4b479625f26bff"), looks := true }, kinds := [], alts := [], laidByText := true, laidKinds := [.data, .data, .data, .data, .sentinel, .sentinel, .pinned], laidTests := true, laidLooks := .later }
def FnChangeUptoCardSaid : Prop := Claim7.holds Tryz.pinned (.plain (OpenSpec.upto fnChangeSpec)) fnChangeUptoCard
end Rows
end Go.Proofs.YtmdlogdmjkfojaaGreatDoor
