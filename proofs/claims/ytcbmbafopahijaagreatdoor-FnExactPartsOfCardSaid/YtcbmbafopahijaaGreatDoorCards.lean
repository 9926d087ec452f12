/-
  DERIVED. GIVEN WITH THE SEED: THE CARDS: each row of YtcbmbafopahijaaGreatDoorRows.lean that lists a variable, with what it lists TIED to the program's text (the seventh form; the later family's looks); each row that meets fmt, with fmt's text TOLD by the authors' own Lean function (tested against real Go, not proved from fmt's source: count such statements apart). THE CARD IS WHAT COUNTS. Prove the row's statement (the work); the ties are given (YtcbmbafopahijaaGreatDoorTie.lean); close each card by the builder's one call (the guide's Derived/Test/ToyasCard.lean, 'card_holds'). Laid BY PROGRAM, IN A SANDBOX (cutbox-door.mjs). By AI agents, Wed Nov 11 2026. No macro, syntax, notation, axiom, sorry.
-/
import Derived.Test.YtcbmbafopahijaaGreatDoorRows
import GoSem.ClaimSeven
namespace Go.Proofs.YtcbmbafopahijaaGreatDoor
namespace Rows

/-- THE TIED CARD OF 'laws.FnExactPartsDepth'. -/
def fnExactPartsDepthCard : Claim7 := { stood := { row := fnExactPartsDepthRow, standIns := [], harness := (true, "3a92deb95c6649d115af1ec50e4f0d6c82c50459cba15133333881ae409089d6"), looks := true }, kinds := [], alts := [], laidByText := true, laidKinds := [.data, .data, .data, .data, .sentinel, .sentinel, .pinned], laidTests := true, laidLooks := .later }
def FnExactPartsDepthCardSaid : Prop := Claim7.holds Tryz.pinned (.plain (OpenSpec.ofChange fnExactPartsDepthSpec)) fnExactPartsDepthCard

/-- THE TIED CARD OF 'laws.FnCodeValue'. -/
def fnCodeValueCard : Claim7 := { stood := { row := fnCodeValueRow, standIns := [], harness := (true, "3a92deb95c6649d115af1ec50e4f0d6c82c50459cba15133333881ae409089d6"), looks := true }, kinds := [], alts := [], laidByText := true, laidKinds := [.data, .data, .data, .data, .sentinel, .sentinel, .pinned], laidTests := true, laidLooks := .later }
def FnCodeValueCardSaid : Prop := Claim7.holds Tryz.pinned (.plain (OpenSpec.ofChange fnCodeValueSpec)) fnCodeValueCard

/-- THE TIED CARD OF 'laws.FnExactReplaceAll'. -/
def fnExactReplaceAllCard : Claim7 := { stood := { row := fnExactReplaceAllRow, standIns := [], harness := (true, "3a92deb95c6649d115af1ec50e4f0d6c82c50459cba15133333881ae409089d6"), looks := true }, kinds := [], alts := [], laidByText := true, laidKinds := [.data, .data, .data, .data, .sentinel, .sentinel, .pinned], laidTests := true, laidLooks := .later }
def FnExactReplaceAllCardSaid : Prop := Claim7.holds Tryz.pinned (.plain (OpenSpec.ofChange fnExactReplaceAllSpec)) fnExactReplaceAllCard

/-- THE TIED CARD OF 'laws.FnExactPartsOf'. -/
def fnExactPartsOfCard : Claim7 := { stood := { row := fnExactPartsOfRow, standIns := [], harness := (true, "3a92deb95c6649d115af1ec50e4f0d6c82c50459cba15133333881ae409089d6"), looks := true }, kinds := [], alts := [], laidByText := true, laidKinds := [.data, .data, .data, .data, .sentinel, .sentinel, .pinned], laidTests := true, laidLooks := .later }
def FnExactPartsOfCardSaid : Prop := Claim7.holds Tryz.pinned (.plain (OpenSpec.ofChange fnExactPartsOfSpec)) fnExactPartsOfCard

/-- THE TIED CARD OF 'laws.FnExactPartsPlaces'. -/
def fnExactPartsPlacesCard : Claim7 := { stood := { row := fnExactPartsPlacesRow, standIns := [], harness := (true, "3a92deb95c6649d115af1ec50e4f0d6c82c50459cba15133333881ae409089d6"), looks := true }, kinds := [], alts := [], laidByText := true, laidKinds := [.data, .data, .data, .data, .sentinel, .sentinel, .pinned], laidTests := true, laidLooks := .later }
def FnExactPartsPlacesCardSaid : Prop := Claim7.holds Tryz.pinned (.plain (OpenSpec.ofChange fnExactPartsPlacesSpec)) fnExactPartsPlacesCard

/-- THE SECOND FORM's CARD OF 'laws.FnExactPartsDepth'. -/
def fnExactPartsDepthUptoCard : Claim7 := { stood := { row := fnExactPartsDepthUptoRow, standIns := [], harness := (true, "3a92deb95c6649d115af1ec50e4f0d6c82c50459cba15133333881ae409089d6"), looks := true }, kinds := [], alts := [], laidByText := true, laidKinds := [.data, .data, .data, .data, .sentinel, .sentinel, .pinned], laidTests := true, laidLooks := .later }
def FnExactPartsDepthUptoCardSaid : Prop := Claim7.holds Tryz.pinned (.plain (OpenSpec.upto fnExactPartsDepthSpec)) fnExactPartsDepthUptoCard

/-- THE SECOND FORM's CARD OF 'laws.FnCodeValue'. -/
def fnCodeValueUptoCard : Claim7 := { stood := { row := fnCodeValueUptoRow, standIns := [], harness := (true, "3a92deb95c6649d115af1ec50e4f0d6c82c50459cba15133333881ae409089d6"), looks := true }, kinds := [], alts := [], laidByText := true, laidKinds := [.data, .data, .data, .data, .sentinel, .sentinel, .pinned], laidTests := true, laidLooks := .later }
def FnCodeValueUptoCardSaid : Prop := Claim7.holds Tryz.pinned (.plain (OpenSpec.upto fnCodeValueSpec)) fnCodeValueUptoCard

/-- THE SECOND FORM's CARD OF 'laws.FnExactReplaceAll'. -/
def fnExactReplaceAllUptoCard : Claim7 := { stood := { row := fnExactReplaceAllUptoRow, standIns := [], harness := (true, "3a92deb95c6649d115af1ec50e4f0d6c82c50459cba15133333881ae409089d6"), looks := true }, kinds := [], alts := [], laidByText := true, laidKinds := [.data, .data, .data, .data, .sentinel, .sentinel, .pinned], laidTests := true, laidLooks := .later }
def FnExactReplaceAllUptoCardSaid : Prop := Claim7.holds Tryz.pinned (.plain (OpenSpec.upto fnExactReplaceAllSpec)) fnExactReplaceAllUptoCard

/-- THE SECOND FORM's CARD OF 'laws.FnExactPartsOf'. -/
def fnExactPartsOfUptoCard : Claim7 := { stood := { row := fnExactPartsOfUptoRow, standIns := [], harness := (true, "3a92deb95c6649d115af1ec50e4f0d6c82c50459cba15133333881ae409089d6"), looks := true }, kinds := [], alts := [], laidByText := true, laidKinds := [.data, .data, .data, .data, .sentinel, .sentinel, .pinned], laidTests := true, laidLooks := .later }
def FnExactPartsOfUptoCardSaid : Prop := Claim7.holds Tryz.pinned (.plain (OpenSpec.upto fnExactPartsOfSpec)) fnExactPartsOfUptoCard

/-- THE SECOND FORM's CARD OF 'laws.FnExactPartsPlaces'. -/
def fnExactPartsPlacesUptoCard : Claim7 := { stood := { row := fnExactPartsPlacesUptoRow, standIns := [], harness := (true, "3a92deb95c6649d115af1ec50e4f0d6c82c50459cba15133333881ae409089d6"), looks := true }, kinds := [], alts := [], laidByText := true, laidKinds := [.data, .data, .data, .data, .sentinel, .sentinel, .pinned], laidTests := true, laidLooks := .later }
def FnExactPartsPlacesUptoCardSaid : Prop := Claim7.holds Tryz.pinned (.plain (OpenSpec.upto fnExactPartsPlacesSpec)) fnExactPartsPlacesUptoCard
end Rows
end Go.Proofs.YtcbmbafopahijaaGreatDoor
