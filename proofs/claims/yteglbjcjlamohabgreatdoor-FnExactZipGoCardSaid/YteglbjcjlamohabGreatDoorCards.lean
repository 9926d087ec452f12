/-
  DERIVED. GIVEN WITH THE SEED: THE CARDS: each row of YteglbjcjlamohabGreatDoorRows.lean that lists a variable, with what it lists TIED to the program's text (the seventh form; the later family's looks); each row that meets fmt, with fmt's text TOLD by the authors' own Lean function (tested against real Go, not proved from fmt's source: count such statements apart). THE CARD IS WHAT COUNTS. Prove the row's statement (the work); the ties are given (YteglbjcjlamohabGreatDoorTie.lean); close each card by the builder's one call (the guide's Derived/Test/ToyasCard.lean, 'card_holds'). Laid BY PROGRAM, IN A SANDBOX (cutbox-door.mjs). By AI agents, Wed Nov 11 2026. No macro, syntax, notation, axiom, sorry.
-/
import Derived.Test.YteglbjcjlamohabGreatDoorRows
import GoSem.ClaimSeven
namespace Go.Proofs.YteglbjcjlamohabGreatDoor
namespace Rows

/-- THE TIED CARD OF 'laws.FnExactZipGo'. -/
def fnExactZipGoCard : Claim7 := { stood := { row := fnExactZipGoRow, standIns := [], harness := (true, "ea75c9de440a75974b45a6daa3fca0251986414b276bdc371b9f29578c86adc0"), looks := true }, kinds := [], alts := [], laidByText := true, laidKinds := [.data, .data, .data, .data, .sentinel, .sentinel, .pinned], laidTests := true, laidLooks := .later }
def FnExactZipGoCardSaid : Prop := Claim7.holds Tryz.pinned (.plain (OpenSpec.ofChange fnExactZipGoSpec)) fnExactZipGoCard

/-- THE TIED CARD OF 'laws.FnExactZipDown'. -/
def fnExactZipDownCard : Claim7 := { stood := { row := fnExactZipDownRow, standIns := [], harness := (true, "ea75c9de440a75974b45a6daa3fca0251986414b276bdc371b9f29578c86adc0"), looks := true }, kinds := [], alts := [], laidByText := true, laidKinds := [.data, .data, .data, .data, .sentinel, .sentinel, .pinned], laidTests := true, laidLooks := .later }
def FnExactZipDownCardSaid : Prop := Claim7.holds Tryz.pinned (.plain (OpenSpec.ofChange fnExactZipDownSpec)) fnExactZipDownCard

/-- THE TIED CARD OF 'laws.FnExactZipPlace'. -/
def fnExactZipPlaceCard : Claim7 := { stood := { row := fnExactZipPlaceRow, standIns := [], harness := (true, "ea75c9de440a75974b45a6daa3fca0251986414b276bdc371b9f29578c86adc0"), looks := true }, kinds := [], alts := [], laidByText := true, laidKinds := [.data, .data, .data, .data, .sentinel, .sentinel, .pinned], laidTests := true, laidLooks := .later }
def FnExactZipPlaceCardSaid : Prop := Claim7.holds Tryz.pinned (.plain (OpenSpec.ofChange fnExactZipPlaceSpec)) fnExactZipPlaceCard

/-- THE TIED CARD OF 'laws.FnExactChangePut'. -/
def fnExactChangePutCard : Claim7 := { stood := { row := fnExactChangePutRow, standIns := [], harness := (true, "ea75c9de440a75974b45a6daa3fca0251986414b276bdc371b9f29578c86adc0"), looks := true }, kinds := [], alts := [], laidByText := true, laidKinds := [.data, .data, .data, .data, .sentinel, .sentinel, .pinned], laidTests := true, laidLooks := .later }
def FnExactChangePutCardSaid : Prop := Claim7.holds Tryz.pinned (.plain (OpenSpec.ofChange fnExactChangePutSpec)) fnExactChangePutCard

/-- THE TIED CARD OF 'laws.FnExactZipSide'. -/
def fnExactZipSideCard : Claim7 := { stood := { row := fnExactZipSideRow, standIns := [], harness := (true, "ea75c9de440a75974b45a6daa3fca0251986414b276bdc371b9f29578c86adc0"), looks := true }, kinds := [], alts := [], laidByText := true, laidKinds := [.data, .data, .data, .data, .sentinel, .sentinel, .pinned], laidTests := true, laidLooks := .later }
def FnExactZipSideCardSaid : Prop := Claim7.holds Tryz.pinned (.plain (OpenSpec.ofChange fnExactZipSideSpec)) fnExactZipSideCard

/-- THE TIED CARD OF 'laws.FnHolesLoop'. -/
def fnHolesLoopCard : Claim7 := { stood := { row := fnHolesLoopRow, standIns := [], harness := (true, "ea75c9de440a75974b45a6daa3fca0251986414b276bdc371b9f29578c86adc0"), looks := true }, kinds := [], alts := [], laidByText := true, laidKinds := [.data, .data, .data, .data, .sentinel, .sentinel, .pinned], laidTests := true, laidLooks := .later }
def FnHolesLoopCardSaid : Prop := Claim7.holds Tryz.pinned (.plain (OpenSpec.ofChange fnHolesLoopSpec)) fnHolesLoopCard

/-- THE SECOND FORM's CARD OF 'laws.FnExactZipGo'. -/
def fnExactZipGoUptoCard : Claim7 := { stood := { row := fnExactZipGoUptoRow, standIns := [], harness := (true, "ea75c9de440a75974b45a6daa3fca0251986414b276bdc371b9f29578c86adc0"), looks := true }, kinds := [], alts := [], laidByText := true, laidKinds := [.data, .data, .data, .data, .sentinel, .sentinel, .pinned], laidTests := true, laidLooks := .later }
def FnExactZipGoUptoCardSaid : Prop := Claim7.holds Tryz.pinned (.plain (OpenSpec.upto fnExactZipGoSpec)) fnExactZipGoUptoCard

/-- THE SECOND FORM's CARD OF 'laws.FnExactZipDown'. -/
def fnExactZipDownUptoCard : Claim7 := { stood := { row := fnExactZipDownUptoRow, standIns := [], harness := (true, "ea75c9de440a75974b45a6daa3fca0251986414b276bdc371b9f29578c86adc0"), looks := true }, kinds := [], alts := [], laidByText := true, laidKinds := [.data, .data, .data, .data, .sentinel, .sentinel, .pinned], laidTests := true, laidLooks := .later }
def FnExactZipDownUptoCardSaid : Prop := Claim7.holds Tryz.pinned (.plain (OpenSpec.upto fnExactZipDownSpec)) fnExactZipDownUptoCard

/-- THE SECOND FORM's CARD OF 'laws.FnExactZipPlace'. -/
def fnExactZipPlaceUptoCard : Claim7 := { stood := { row := fnExactZipPlaceUptoRow, standIns := [], harness := (true, "ea75c9de440a75974b45a6daa3fca0251986414b276bdc371b9f29578c86adc0"), looks := true }, kinds := [], alts := [], laidByText := true, laidKinds := [.data, .data, .data, .data, .sentinel, .sentinel, .pinned], laidTests := true, laidLooks := .later }
def FnExactZipPlaceUptoCardSaid : Prop := Claim7.holds Tryz.pinned (.plain (OpenSpec.upto fnExactZipPlaceSpec)) fnExactZipPlaceUptoCard

/-- THE SECOND FORM's CARD OF 'laws.FnExactChangePut'. -/
def fnExactChangePutUptoCard : Claim7 := { stood := { row := fnExactChangePutUptoRow, standIns := [], harness := (true, "ea75c9de440a75974b45a6daa3fca0251986414b276bdc371b9f29578c86adc0"), looks := true }, kinds := [], alts := [], laidByText := true, laidKinds := [.data, .data, .data, .data, .sentinel, .sentinel, .pinned], laidTests := true, laidLooks := .later }
def FnExactChangePutUptoCardSaid : Prop := Claim7.holds Tryz.pinned (.plain (OpenSpec.upto fnExactChangePutSpec)) fnExactChangePutUptoCard

/-- THE SECOND FORM's CARD OF 'laws.FnExactZipSide'. -/
def fnExactZipSideUptoCard : Claim7 := { stood := { row := fnExactZipSideUptoRow, standIns := [], harness := (true, "ea75c9de440a75974b45a6daa3fca0251986414b276bdc371b9f29578c86adc0"), looks := true }, kinds := [], alts := [], laidByText := true, laidKinds := [.data, .data, .data, .data, .sentinel, .sentinel, .pinned], laidTests := true, laidLooks := .later }
def FnExactZipSideUptoCardSaid : Prop := Claim7.holds Tryz.pinned (.plain (OpenSpec.upto fnExactZipSideSpec)) fnExactZipSideUptoCard

/-- THE SECOND FORM's CARD OF 'laws.FnHolesLoop'. -/
def fnHolesLoopUptoCard : Claim7 := { stood := { row := fnHolesLoopUptoRow, standIns := [], harness := (true, "ea75c9de440a75974b45a6daa3fca0251986414b276bdc371b9f29578c86adc0"), looks := true }, kinds := [], alts := [], laidByText := true, laidKinds := [.data, .data, .data, .data, .sentinel, .sentinel, .pinned], laidTests := true, laidLooks := .later }
def FnHolesLoopUptoCardSaid : Prop := Claim7.holds Tryz.pinned (.plain (OpenSpec.upto fnHolesLoopSpec)) fnHolesLoopUptoCard
end Rows
end Go.Proofs.YteglbjcjlamohabGreatDoor
