/-
  DERIVED. GIVEN WITH THE SEED: THE CARDS: each row of YtcbmbafopahijabGreatDoorRows.lean that lists a variable, with what it lists TIED to the program's text (the seventh form; the later family's looks); each row that meets fmt, with fmt's text TOLD by the authors' own Lean function (tested against real Go, not proved from fmt's source: count such statements apart). THE CARD IS WHAT COUNTS. Prove the row's statement (the work); the ties are given (YtcbmbafopahijabGreatDoorTie.lean); close each card by the builder's one call (the guide's Derived/Test/ToyasCard.lean, 'card_holds'). Laid BY PROGRAM, IN A SANDBOX (cutbox-door.mjs). By AI agents, Wed Nov 11 2026. No macro, syntax, notation, axiom, sorry.
-/
import Derived.Test.YtcbmbafopahijabGreatDoorRows
import GoSem.ClaimSeven
namespace Go.Proofs.YtcbmbafopahijabGreatDoor
namespace Rows

/-- THE TIED CARD OF 'laws.FnExactChangeOf'. -/
def fnExactChangeOfCard : Claim7 := { stood := { row := fnExactChangeOfRow, standIns := [], harness := (true, "afc944f730c02a367966d51d1d907d0622ed159e18890b96e96b36fe762caa2c"), looks := true }, kinds := [], alts := [], laidByText := true, laidKinds := [.data, .data, .data, .data, .sentinel, .sentinel, .pinned], laidTests := true, laidLooks := .later }
def FnExactChangeOfCardSaid : Prop := Claim7.holds Tryz.pinned (.plain (OpenSpec.ofChange fnExactChangeOfSpec)) fnExactChangeOfCard

/-- THE TIED CARD OF 'laws.FnCode'. -/
def fnCodeCard : Claim7 := { stood := { row := fnCodeRow, standIns := [], harness := (true, "afc944f730c02a367966d51d1d907d0622ed159e18890b96e96b36fe762caa2c"), looks := true }, kinds := [], alts := [], laidByText := true, laidKinds := [.data, .data, .data, .data, .sentinel, .sentinel, .pinned], laidTests := true, laidLooks := .later }
def FnCodeCardSaid : Prop := Claim7.holds Tryz.pinned (.plain (OpenSpec.ofChange fnCodeSpec)) fnCodeCard

/-- THE TIED CARD OF 'laws.FnDepth'. -/
def fnDepthCard : Claim7 := { stood := { row := fnDepthRow, standIns := [], harness := (true, "afc944f730c02a367966d51d1d907d0622ed159e18890b96e96b36fe762caa2c"), looks := true }, kinds := [], alts := [], laidByText := true, laidKinds := [.data, .data, .data, .data, .sentinel, .sentinel, .pinned], laidTests := true, laidLooks := .later }
def FnDepthCardSaid : Prop := Claim7.holds Tryz.pinned (.plain (OpenSpec.ofChange fnDepthSpec)) fnDepthCard

/-- THE TIED CARD OF 'laws.FnPartsPlaces'. -/
def fnPartsPlacesCard : Claim7 := { stood := { row := fnPartsPlacesRow, standIns := [], harness := (true, "afc944f730c02a367966d51d1d907d0622ed159e18890b96e96b36fe762caa2c"), looks := true }, kinds := [], alts := [], laidByText := true, laidKinds := [.data, .data, .data, .data, .sentinel, .sentinel, .pinned], laidTests := true, laidLooks := .later }
def FnPartsPlacesCardSaid : Prop := Claim7.holds Tryz.pinned (.plain (OpenSpec.ofChange fnPartsPlacesSpec)) fnPartsPlacesCard

/-- THE TIED CARD OF 'laws.FnReplace'. -/
def fnReplaceCard : Claim7 := { stood := { row := fnReplaceRow, standIns := [], harness := (true, "afc944f730c02a367966d51d1d907d0622ed159e18890b96e96b36fe762caa2c"), looks := true }, kinds := [], alts := [], laidByText := true, laidKinds := [.data, .data, .data, .data, .sentinel, .sentinel, .pinned], laidTests := true, laidLooks := .later }
def FnReplaceCardSaid : Prop := Claim7.holds Tryz.pinned (.plain (OpenSpec.ofChange fnReplaceSpec)) fnReplaceCard

/-- THE TIED CARD OF 'laws.FnParts'. -/
def fnPartsCard : Claim7 := { stood := { row := fnPartsRow, standIns := [], harness := (true, "afc944f730c02a367966d51d1d907d0622ed159e18890b96e96b36fe762caa2c"), looks := true }, kinds := [], alts := [], laidByText := true, laidKinds := [.data, .data, .data, .data, .sentinel, .sentinel, .pinned], laidTests := true, laidLooks := .later }
def FnPartsCardSaid : Prop := Claim7.holds Tryz.pinned (.plain (OpenSpec.ofChange fnPartsSpec)) fnPartsCard

/-- THE SECOND FORM's CARD OF 'laws.FnExactChangeOf'. -/
def fnExactChangeOfUptoCard : Claim7 := { stood := { row := fnExactChangeOfUptoRow, standIns := [], harness := (true, "afc944f730c02a367966d51d1d907d0622ed159e18890b96e96b36fe762caa2c"), looks := true }, kinds := [], alts := [], laidByText := true, laidKinds := [.data, .data, .data, .data, .sentinel, .sentinel, .pinned], laidTests := true, laidLooks := .later }
def FnExactChangeOfUptoCardSaid : Prop := Claim7.holds Tryz.pinned (.plain (OpenSpec.upto fnExactChangeOfSpec)) fnExactChangeOfUptoCard

/-- THE SECOND FORM's CARD OF 'laws.FnCode'. -/
def fnCodeUptoCard : Claim7 := { stood := { row := fnCodeUptoRow, standIns := [], harness := (true, "afc944f730c02a367966d51d1d907d0622ed159e18890b96e96b36fe762caa2c"), looks := true }, kinds := [], alts := [], laidByText := true, laidKinds := [.data, .data, .data, .data, .sentinel, .sentinel, .pinned], laidTests := true, laidLooks := .later }
def FnCodeUptoCardSaid : Prop := Claim7.holds Tryz.pinned (.plain (OpenSpec.upto fnCodeSpec)) fnCodeUptoCard

/-- THE SECOND FORM's CARD OF 'laws.FnDepth'. -/
def fnDepthUptoCard : Claim7 := { stood := { row := fnDepthUptoRow, standIns := [], harness := (true, "afc944f730c02a367966d51d1d907d0622ed159e18890b96e96b36fe762caa2c"), looks := true }, kinds := [], alts := [], laidByText := true, laidKinds := [.data, .data, .data, .data, .sentinel, .sentinel, .pinned], laidTests := true, laidLooks := .later }
def FnDepthUptoCardSaid : Prop := Claim7.holds Tryz.pinned (.plain (OpenSpec.upto fnDepthSpec)) fnDepthUptoCard

/-- THE SECOND FORM's CARD OF 'laws.FnPartsPlaces'. -/
def fnPartsPlacesUptoCard : Claim7 := { stood := { row := fnPartsPlacesUptoRow, standIns := [], harness := (true, "afc944f730c02a367966d51d1d907d0622ed159e18890b96e96b36fe762caa2c"), looks := true }, kinds := [], alts := [], laidByText := true, laidKinds := [.data, .data, .data, .data, .sentinel, .sentinel, .pinned], laidTests := true, laidLooks := .later }
def FnPartsPlacesUptoCardSaid : Prop := Claim7.holds Tryz.pinned (.plain (OpenSpec.upto fnPartsPlacesSpec)) fnPartsPlacesUptoCard

/-- THE SECOND FORM's CARD OF 'laws.FnReplace'. -/
def fnReplaceUptoCard : Claim7 := { stood := { row := fnReplaceUptoRow, standIns := [], harness := (true, "afc944f730c02a367966d51d1d907d0622ed159e18890b96e96b36fe762caa2c"), looks := true }, kinds := [], alts := [], laidByText := true, laidKinds := [.data, .data, .data, .data, .sentinel, .sentinel, .pinned], laidTests := true, laidLooks := .later }
def FnReplaceUptoCardSaid : Prop := Claim7.holds Tryz.pinned (.plain (OpenSpec.upto fnReplaceSpec)) fnReplaceUptoCard

/-- THE SECOND FORM's CARD OF 'laws.FnParts'. -/
def fnPartsUptoCard : Claim7 := { stood := { row := fnPartsUptoRow, standIns := [], harness := (true, "afc944f730c02a367966d51d1d907d0622ed159e18890b96e96b36fe762caa2c"), looks := true }, kinds := [], alts := [], laidByText := true, laidKinds := [.data, .data, .data, .data, .sentinel, .sentinel, .pinned], laidTests := true, laidLooks := .later }
def FnPartsUptoCardSaid : Prop := Claim7.holds Tryz.pinned (.plain (OpenSpec.upto fnPartsSpec)) fnPartsUptoCard
end Rows
end Go.Proofs.YtcbmbafopahijabGreatDoor
