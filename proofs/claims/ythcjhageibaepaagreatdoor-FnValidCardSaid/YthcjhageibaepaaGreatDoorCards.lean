/-
  DERIVED. GIVEN WITH THE SEED: THE CARDS: each row of YthcjhageibaepaaGreatDoorRows.lean that lists a variable, with what it lists TIED to the program's text (the seventh form; the later family's looks); each row that meets fmt, with fmt's text TOLD by the authors' own Lean function (tested against real Go, not proved from fmt's source: count such statements apart). THE CARD IS WHAT COUNTS. Prove the row's statement (the work); the ties are given (YthcjhageibaepaaGreatDoorTie.lean); close each card by the builder's one call (the guide's Derived/Test/ToyasCard.lean, 'card_holds'). Laid BY PROGRAM, IN A SANDBOX (cutbox-door.mjs). By AI agents, Wed Nov 11 2026. No macro, syntax, notation, axiom, sorry.
-/
import Derived.Test.YthcjhageibaepaaGreatDoorRows
import GoSem.ClaimSeven
namespace Go.Proofs.YthcjhageibaepaaGreatDoor
namespace Rows

/-- THE TIED CARD OF 'laws.FnPlace'. -/
def fnPlaceCard : Claim7 := { stood := { row := fnPlaceRow, standIns := [], harness := (true, "0a7bea4b158cf06a5084afe4771b2295fcc7ea351af80b58d6d1b6218cb667ad"), looks := true }, kinds := [], alts := [], laidByText := true, laidKinds := [.data, .data, .data, .data, .sentinel, .sentinel, .pinned], laidTests := true, laidLooks := .later }
def FnPlaceCardSaid : Prop := Claim7.holds Tryz.pinned (.plain (OpenSpec.ofChange fnPlaceSpec)) fnPlaceCard

/-- THE TIED CARD OF 'laws.FnSet'. -/
def fnSetCard : Claim7 := { stood := { row := fnSetRow, standIns := [], harness := (true, "0a7bea4b158cf06a5084afe4771b2295fcc7ea351af80b58d6d1b6218cb667ad"), looks := true }, kinds := [], alts := [], laidByText := true, laidKinds := [.data, .data, .data, .data, .sentinel, .sentinel, .pinned], laidTests := true, laidLooks := .later }
def FnSetCardSaid : Prop := Claim7.holds Tryz.pinned (.plain (OpenSpec.ofChange fnSetSpec)) fnSetCard

/-- THE TIED CARD OF 'laws.FnSide'. -/
def fnSideCard : Claim7 := { stood := { row := fnSideRow, standIns := [], harness := (true, "0a7bea4b158cf06a5084afe4771b2295fcc7ea351af80b58d6d1b6218cb667ad"), looks := true }, kinds := [], alts := [], laidByText := true, laidKinds := [.data, .data, .data, .data, .sentinel, .sentinel, .pinned], laidTests := true, laidLooks := .later }
def FnSideCardSaid : Prop := Claim7.holds Tryz.pinned (.plain (OpenSpec.ofChange fnSideSpec)) fnSideCard

/-- THE TIED CARD OF 'laws.FnValid'. -/
def fnValidCard : Claim7 := { stood := { row := fnValidRow, standIns := [], harness := (true, "0a7bea4b158cf06a5084afe4771b2295fcc7ea351af80b58d6d1b6218cb667ad"), looks := true }, kinds := [], alts := [], laidByText := true, laidKinds := [.data, .data, .data, .data, .sentinel, .sentinel, .pinned], laidTests := true, laidLooks := .later }
def FnValidCardSaid : Prop := Claim7.holds Tryz.pinned (.plain (OpenSpec.ofChange fnValidSpec)) fnValidCard

/-- THE TIED CARD OF 'laws.FnUp'. -/
def fnUpCard : Claim7 := { stood := { row := fnUpRow, standIns := [], harness := (true, "0a7bea4b158cf06a5084afe4771b2295fcc7ea351af80b58d6d1b6218cb667ad"), looks := true }, kinds := [], alts := [], laidByText := true, laidKinds := [.data, .data, .data, .data, .sentinel, .sentinel, .pinned], laidTests := true, laidLooks := .later }
def FnUpCardSaid : Prop := Claim7.holds Tryz.pinned (.plain (OpenSpec.ofChange fnUpSpec)) fnUpCard

/-- THE TIED CARD OF 'laws.FnDown'. -/
def fnDownCard : Claim7 := { stood := { row := fnDownRow, standIns := [], harness := (true, "0a7bea4b158cf06a5084afe4771b2295fcc7ea351af80b58d6d1b6218cb667ad"), looks := true }, kinds := [], alts := [], laidByText := true, laidKinds := [.data, .data, .data, .data, .sentinel, .sentinel, .pinned], laidTests := true, laidLooks := .later }
def FnDownCardSaid : Prop := Claim7.holds Tryz.pinned (.plain (OpenSpec.ofChange fnDownSpec)) fnDownCard

/-- THE SECOND FORM's CARD OF 'laws.FnPlace'. -/
def fnPlaceUptoCard : Claim7 := { stood := { row := fnPlaceUptoRow, standIns := [], harness := (true, "0a7bea4b158cf06a5084afe4771b2295fcc7ea351af80b58d6d1b6218cb667ad"), looks := true }, kinds := [], alts := [], laidByText := true, laidKinds := [.data, .data, .data, .data, .sentinel, .sentinel, .pinned], laidTests := true, laidLooks := .later }
def FnPlaceUptoCardSaid : Prop := Claim7.holds Tryz.pinned (.plain (OpenSpec.upto fnPlaceSpec)) fnPlaceUptoCard

/-- THE SECOND FORM's CARD OF 'laws.FnSet'. -/
def fnSetUptoCard : Claim7 := { stood := { row := fnSetUptoRow, standIns := [], harness := (true, "0a7bea4b158cf06a5084afe4771b2295fcc7ea351af80b58d6d1b6218cb667ad"), looks := true }, kinds := [], alts := [], laidByText := true, laidKinds := [.data, .data, .data, .data, .sentinel, .sentinel, .pinned], laidTests := true, laidLooks := .later }
def FnSetUptoCardSaid : Prop := Claim7.holds Tryz.pinned (.plain (OpenSpec.upto fnSetSpec)) fnSetUptoCard

/-- THE SECOND FORM's CARD OF 'laws.FnSide'. -/
def fnSideUptoCard : Claim7 := { stood := { row := fnSideUptoRow, standIns := [], harness := (true, "0a7bea4b158cf06a5084afe4771b2295fcc7ea351af80b58d6d1b6218cb667ad"), looks := true }, kinds := [], alts := [], laidByText := true, laidKinds := [.data, .data, .data, .data, .sentinel, .sentinel, .pinned], laidTests := true, laidLooks := .later }
def FnSideUptoCardSaid : Prop := Claim7.holds Tryz.pinned (.plain (OpenSpec.upto fnSideSpec)) fnSideUptoCard

/-- THE SECOND FORM's CARD OF 'laws.FnValid'. -/
def fnValidUptoCard : Claim7 := { stood := { row := fnValidUptoRow, standIns := [], harness := (true, "0a7bea4b158cf06a5084afe4771b2295fcc7ea351af80b58d6d1b6218cb667ad"), looks := true }, kinds := [], alts := [], laidByText := true, laidKinds := [.data, .data, .data, .data, .sentinel, .sentinel, .pinned], laidTests := true, laidLooks := .later }
def FnValidUptoCardSaid : Prop := Claim7.holds Tryz.pinned (.plain (OpenSpec.upto fnValidSpec)) fnValidUptoCard

/-- THE SECOND FORM's CARD OF 'laws.FnUp'. -/
def fnUpUptoCard : Claim7 := { stood := { row := fnUpUptoRow, standIns := [], harness := (true, "0a7bea4b158cf06a5084afe4771b2295fcc7ea351af80b58d6d1b6218cb667ad"), looks := true }, kinds := [], alts := [], laidByText := true, laidKinds := [.data, .data, .data, .data, .sentinel, .sentinel, .pinned], laidTests := true, laidLooks := .later }
def FnUpUptoCardSaid : Prop := Claim7.holds Tryz.pinned (.plain (OpenSpec.upto fnUpSpec)) fnUpUptoCard

/-- THE SECOND FORM's CARD OF 'laws.FnDown'. -/
def fnDownUptoCard : Claim7 := { stood := { row := fnDownUptoRow, standIns := [], harness := (true, "0a7bea4b158cf06a5084afe4771b2295fcc7ea351af80b58d6d1b6218cb667ad"), looks := true }, kinds := [], alts := [], laidByText := true, laidKinds := [.data, .data, .data, .data, .sentinel, .sentinel, .pinned], laidTests := true, laidLooks := .later }
def FnDownUptoCardSaid : Prop := Claim7.holds Tryz.pinned (.plain (OpenSpec.upto fnDownSpec)) fnDownUptoCard
end Rows
end Go.Proofs.YthcjhageibaepaaGreatDoor
