/-
  DERIVED. GIVEN WITH THE SEED: THE CARDS: each row of YtfdpbglppfohhaaGreatDoorRows.lean that lists a variable, with what it lists TIED to the program's text (the seventh form; the later family's looks); each row that meets fmt, with fmt's text TOLD by the authors' own Lean function (tested against real Go, not proved from fmt's source: count such statements apart). THE CARD IS WHAT COUNTS. Prove the row's statement (the work); the ties are given (YtfdpbglppfohhaaGreatDoorTie.lean); close each card by the builder's one call (the guide's Derived/Test/ToyasCard.lean, 'card_holds'). Laid BY PROGRAM, IN A SANDBOX (cutbox-door.mjs). By AI agents, Wed Nov 11 2026. No macro, syntax, notation, axiom, sorry.
-/
import Derived.Test.YtfdpbglppfohhaaGreatDoorRows
import GoSem.ClaimSeven
namespace Go.Proofs.YtfdpbglppfohhaaGreatDoor
namespace Rows

/-- THE TIED CARD OF 'laws.FnExactZipPlace'. -/
def fnExactZipPlaceCard : Claim7 := { stood := { row := fnExactZipPlaceRow, standIns := [], harness := (true, "35d8e931f0f732b245e953157aa0be8fe76274aa5ae54f694c8894191eed0852"), looks := true }, kinds := [], alts := [], laidByText := true, laidKinds := [.data, .data, .data, .data, .sentinel, .sentinel, .pinned], laidTests := true, laidLooks := .later }
def FnExactZipPlaceCardSaid : Prop := Claim7.holds Tryz.pinned (.plain (OpenSpec.ofChange fnExactZipPlaceSpec)) fnExactZipPlaceCard

/-- THE TIED CARD OF 'laws.FnExactChangePut'. -/
def fnExactChangePutCard : Claim7 := { stood := { row := fnExactChangePutRow, standIns := [], harness := (true, "35d8e931f0f732b245e953157aa0be8fe76274aa5ae54f694c8894191eed0852"), looks := true }, kinds := [], alts := [], laidByText := true, laidKinds := [.data, .data, .data, .data, .sentinel, .sentinel, .pinned], laidTests := true, laidLooks := .later }
def FnExactChangePutCardSaid : Prop := Claim7.holds Tryz.pinned (.plain (OpenSpec.ofChange fnExactChangePutSpec)) fnExactChangePutCard

/-- THE TIED CARD OF 'laws.FnExactZipSide'. -/
def fnExactZipSideCard : Claim7 := { stood := { row := fnExactZipSideRow, standIns := [], harness := (true, "35d8e931f0f732b245e953157aa0be8fe76274aa5ae54f694c8894191eed0852"), looks := true }, kinds := [], alts := [], laidByText := true, laidKinds := [.data, .data, .data, .data, .sentinel, .sentinel, .pinned], laidTests := true, laidLooks := .later }
def FnExactZipSideCardSaid : Prop := Claim7.holds Tryz.pinned (.plain (OpenSpec.ofChange fnExactZipSideSpec)) fnExactZipSideCard

/-- THE TIED CARD OF 'laws.FnOpen'. -/
def fnOpenCard : Claim7 := { stood := { row := fnOpenRow, standIns := [], harness := (true, "35d8e931f0f732b245e953157aa0be8fe76274aa5ae54f694c8894191eed0852"), looks := true }, kinds := [], alts := [], laidByText := true, laidKinds := [.data, .data, .data, .data, .sentinel, .sentinel, .pinned], laidTests := true, laidLooks := .later }
def FnOpenCardSaid : Prop := Claim7.holds Tryz.pinned (.plain (OpenSpec.ofChange fnOpenSpec)) fnOpenCard

/-- THE TIED CARD OF 'laws.FnKids'. -/
def fnKidsCard : Claim7 := { stood := { row := fnKidsRow, standIns := [], harness := (true, "35d8e931f0f732b245e953157aa0be8fe76274aa5ae54f694c8894191eed0852"), looks := true }, kinds := [], alts := [], laidByText := true, laidKinds := [.data, .data, .data, .data, .sentinel, .sentinel, .pinned], laidTests := true, laidLooks := .later }
def FnKidsCardSaid : Prop := Claim7.holds Tryz.pinned (.plain (OpenSpec.ofChange fnKidsSpec)) fnKidsCard

/-- THE TIED CARD OF 'laws.FnClose'. -/
def fnCloseCard : Claim7 := { stood := { row := fnCloseRow, standIns := [], harness := (true, "35d8e931f0f732b245e953157aa0be8fe76274aa5ae54f694c8894191eed0852"), looks := true }, kinds := [], alts := [], laidByText := true, laidKinds := [.data, .data, .data, .data, .sentinel, .sentinel, .pinned], laidTests := true, laidLooks := .later }
def FnCloseCardSaid : Prop := Claim7.holds Tryz.pinned (.plain (OpenSpec.ofChange fnCloseSpec)) fnCloseCard

/-- THE SECOND FORM's CARD OF 'laws.FnExactZipPlace'. -/
def fnExactZipPlaceUptoCard : Claim7 := { stood := { row := fnExactZipPlaceUptoRow, standIns := [], harness := (true, "35d8e931f0f732b245e953157aa0be8fe76274aa5ae54f694c8894191eed0852"), looks := true }, kinds := [], alts := [], laidByText := true, laidKinds := [.data, .data, .data, .data, .sentinel, .sentinel, .pinned], laidTests := true, laidLooks := .later }
def FnExactZipPlaceUptoCardSaid : Prop := Claim7.holds Tryz.pinned (.plain (OpenSpec.upto fnExactZipPlaceSpec)) fnExactZipPlaceUptoCard

/-- THE SECOND FORM's CARD OF 'laws.FnExactChangePut'. -/
def fnExactChangePutUptoCard : Claim7 := { stood := { row := fnExactChangePutUptoRow, standIns := [], harness := (true, "35d8e931f0f732b245e953157aa0be8fe76274aa5ae54f694c8894191eed0852"), looks := true }, kinds := [], alts := [], laidByText := true, laidKinds := [.data, .data, .data, .data, .sentinel, .sentinel, .pinned], laidTests := true, laidLooks := .later }
def FnExactChangePutUptoCardSaid : Prop := Claim7.holds Tryz.pinned (.plain (OpenSpec.upto fnExactChangePutSpec)) fnExactChangePutUptoCard

/-- THE SECOND FORM's CARD OF 'laws.FnExactZipSide'. -/
def fnExactZipSideUptoCard : Claim7 := { stood := { row := fnExactZipSideUptoRow, standIns := [], harness := (true, "35d8e931f0f732b245e953157aa0be8fe76274aa5ae54f694c8894191eed0852"), looks := true }, kinds := [], alts := [], laidByText := true, laidKinds := [.data, .data, .data, .data, .sentinel, .sentinel, .pinned], laidTests := true, laidLooks := .later }
def FnExactZipSideUptoCardSaid : Prop := Claim7.holds Tryz.pinned (.plain (OpenSpec.upto fnExactZipSideSpec)) fnExactZipSideUptoCard

/-- THE SECOND FORM's CARD OF 'laws.FnOpen'. -/
def fnOpenUptoCard : Claim7 := { stood := { row := fnOpenUptoRow, standIns := [], harness := (true, "35d8e931f0f732b245e953157aa0be8fe76274aa5ae54f694c8894191eed0852"), looks := true }, kinds := [], alts := [], laidByText := true, laidKinds := [.data, .data, .data, .data, .sentinel, .sentinel, .pinned], laidTests := true, laidLooks := .later }
def FnOpenUptoCardSaid : Prop := Claim7.holds Tryz.pinned (.plain (OpenSpec.upto fnOpenSpec)) fnOpenUptoCard

/-- THE SECOND FORM's CARD OF 'laws.FnKids'. -/
def fnKidsUptoCard : Claim7 := { stood := { row := fnKidsUptoRow, standIns := [], harness := (true, "35d8e931f0f732b245e953157aa0be8fe76274aa5ae54f694c8894191eed0852"), looks := true }, kinds := [], alts := [], laidByText := true, laidKinds := [.data, .data, .data, .data, .sentinel, .sentinel, .pinned], laidTests := true, laidLooks := .later }
def FnKidsUptoCardSaid : Prop := Claim7.holds Tryz.pinned (.plain (OpenSpec.upto fnKidsSpec)) fnKidsUptoCard

/-- THE SECOND FORM's CARD OF 'laws.FnClose'. -/
def fnCloseUptoCard : Claim7 := { stood := { row := fnCloseUptoRow, standIns := [], harness := (true, "35d8e931f0f732b245e953157aa0be8fe76274aa5ae54f694c8894191eed0852"), looks := true }, kinds := [], alts := [], laidByText := true, laidKinds := [.data, .data, .data, .data, .sentinel, .sentinel, .pinned], laidTests := true, laidLooks := .later }
def FnCloseUptoCardSaid : Prop := Claim7.holds Tryz.pinned (.plain (OpenSpec.upto fnCloseSpec)) fnCloseUptoCard
end Rows
end Go.Proofs.YtfdpbglppfohhaaGreatDoor
