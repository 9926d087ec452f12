/-
  DERIVED. GIVEN WITH THE SEED: THE CARDS: each row of YteglbjcjlamohaaGreatDoorRows.lean that lists a variable, with what it lists TIED to the program's text (the seventh form; the later family's looks); each row that meets fmt, with fmt's text TOLD by the authors' own Lean function (tested against real Go, not proved from fmt's source: count such statements apart). THE CARD IS WHAT COUNTS. Prove the row's statement (the work); the ties are given (YteglbjcjlamohaaGreatDoorTie.lean); close each card by the builder's one call (the guide's Derived/Test/ToyasCard.lean, 'card_holds'). Laid BY PROGRAM, IN A SANDBOX (cutbox-door.mjs). By AI agents, Wed Nov 11 2026. No macro, syntax, notation, axiom, sorry.
-/
import Derived.Test.YteglbjcjlamohaaGreatDoorRows
import GoSem.ClaimSeven
namespace Go.Proofs.YteglbjcjlamohaaGreatDoor
namespace Rows

/-- THE TIED CARD OF 'laws.FnExactZipOpen'. -/
def fnExactZipOpenCard : Claim7 := { stood := { row := fnExactZipOpenRow, standIns := [], harness := (true, "5cd07346b5bfb805d2e08358d15c4592fcf7c3116e9e757cfb9f79be1bd59ef0"), looks := true }, kinds := [], alts := [], laidByText := true, laidKinds := [.data, .data, .data, .data, .sentinel, .sentinel, .pinned], laidTests := true, laidLooks := .later }
def FnExactZipOpenCardSaid : Prop := Claim7.holds Tryz.pinned (.plain (OpenSpec.ofChange fnExactZipOpenSpec)) fnExactZipOpenCard

/-- THE TIED CARD OF 'laws.FnExactZipValid'. -/
def fnExactZipValidCard : Claim7 := { stood := { row := fnExactZipValidRow, standIns := [], harness := (true, "5cd07346b5bfb805d2e08358d15c4592fcf7c3116e9e757cfb9f79be1bd59ef0"), looks := true }, kinds := [], alts := [], laidByText := true, laidKinds := [.data, .data, .data, .data, .sentinel, .sentinel, .pinned], laidTests := true, laidLooks := .later }
def FnExactZipValidCardSaid : Prop := Claim7.holds Tryz.pinned (.plain (OpenSpec.ofChange fnExactZipValidSpec)) fnExactZipValidCard

/-- THE TIED CARD OF 'laws.FnExactZipClose'. -/
def fnExactZipCloseCard : Claim7 := { stood := { row := fnExactZipCloseRow, standIns := [], harness := (true, "5cd07346b5bfb805d2e08358d15c4592fcf7c3116e9e757cfb9f79be1bd59ef0"), looks := true }, kinds := [], alts := [], laidByText := true, laidKinds := [.data, .data, .data, .data, .sentinel, .sentinel, .pinned], laidTests := true, laidLooks := .later }
def FnExactZipCloseCardSaid : Prop := Claim7.holds Tryz.pinned (.plain (OpenSpec.ofChange fnExactZipCloseSpec)) fnExactZipCloseCard

/-- THE TIED CARD OF 'laws.FnExactZipUp'. -/
def fnExactZipUpCard : Claim7 := { stood := { row := fnExactZipUpRow, standIns := [], harness := (true, "5cd07346b5bfb805d2e08358d15c4592fcf7c3116e9e757cfb9f79be1bd59ef0"), looks := true }, kinds := [], alts := [], laidByText := true, laidKinds := [.data, .data, .data, .data, .sentinel, .sentinel, .pinned], laidTests := true, laidLooks := .later }
def FnExactZipUpCardSaid : Prop := Claim7.holds Tryz.pinned (.plain (OpenSpec.ofChange fnExactZipUpSpec)) fnExactZipUpCard

/-- THE TIED CARD OF 'laws.FnExactZipSet'. -/
def fnExactZipSetCard : Claim7 := { stood := { row := fnExactZipSetRow, standIns := [], harness := (true, "5cd07346b5bfb805d2e08358d15c4592fcf7c3116e9e757cfb9f79be1bd59ef0"), looks := true }, kinds := [], alts := [], laidByText := true, laidKinds := [.data, .data, .data, .data, .sentinel, .sentinel, .pinned], laidTests := true, laidLooks := .later }
def FnExactZipSetCardSaid : Prop := Claim7.holds Tryz.pinned (.plain (OpenSpec.ofChange fnExactZipSetSpec)) fnExactZipSetCard

/-- THE TIED CARD OF 'laws.FnExactZipKids'. -/
def fnExactZipKidsCard : Claim7 := { stood := { row := fnExactZipKidsRow, standIns := [], harness := (true, "5cd07346b5bfb805d2e08358d15c4592fcf7c3116e9e757cfb9f79be1bd59ef0"), looks := true }, kinds := [], alts := [], laidByText := true, laidKinds := [.data, .data, .data, .data, .sentinel, .sentinel, .pinned], laidTests := true, laidLooks := .later }
def FnExactZipKidsCardSaid : Prop := Claim7.holds Tryz.pinned (.plain (OpenSpec.ofChange fnExactZipKidsSpec)) fnExactZipKidsCard

/-- THE SECOND FORM's CARD OF 'laws.FnExactZipOpen'. -/
def fnExactZipOpenUptoCard : Claim7 := { stood := { row := fnExactZipOpenUptoRow, standIns := [], harness := (true, "5cd07346b5bfb805d2e08358d15c4592fcf7c3116e9e757cfb9f79be1bd59ef0"), looks := true }, kinds := [], alts := [], laidByText := true, laidKinds := [.data, .data, .data, .data, .sentinel, .sentinel, .pinned], laidTests := true, laidLooks := .later }
def FnExactZipOpenUptoCardSaid : Prop := Claim7.holds Tryz.pinned (.plain (OpenSpec.upto fnExactZipOpenSpec)) fnExactZipOpenUptoCard

/-- THE SECOND FORM's CARD OF 'laws.FnExactZipValid'. -/
def fnExactZipValidUptoCard : Claim7 := { stood := { row := fnExactZipValidUptoRow, standIns := [], harness := (true, "5cd07346b5bfb805d2e08358d15c4592fcf7c3116e9e757cfb9f79be1bd59ef0"), looks := true }, kinds := [], alts := [], laidByText := true, laidKinds := [.data, .data, .data, .data, .sentinel, .sentinel, .pinned], laidTests := true, laidLooks := .later }
def FnExactZipValidUptoCardSaid : Prop := Claim7.holds Tryz.pinned (.plain (OpenSpec.upto fnExactZipValidSpec)) fnExactZipValidUptoCard

/-- THE SECOND FORM's CARD OF 'laws.FnExactZipClose'. -/
def fnExactZipCloseUptoCard : Claim7 := { stood := { row := fnExactZipCloseUptoRow, standIns := [], harness := (true, "5cd07346b5bfb805d2e08358d15c4592fcf7c3116e9e757cfb9f79be1bd59ef0"), looks := true }, kinds := [], alts := [], laidByText := true, laidKinds := [.data, .data, .data, .data, .sentinel, .sentinel, .pinned], laidTests := true, laidLooks := .later }
def FnExactZipCloseUptoCardSaid : Prop := Claim7.holds Tryz.pinned (.plain (OpenSpec.upto fnExactZipCloseSpec)) fnExactZipCloseUptoCard

/-- THE SECOND FORM's CARD OF 'laws.FnExactZipUp'. -/
def fnExactZipUpUptoCard : Claim7 := { stood := { row := fnExactZipUpUptoRow, standIns := [], harness := (true, "5cd07346b5bfb805d2e08358d15c4592fcf7c3116e9e757cfb9f79be1bd59ef0"), looks := true }, kinds := [], alts := [], laidByText := true, laidKinds := [.data, .data, .data, .data, .sentinel, .sentinel, .pinned], laidTests := true, laidLooks := .later }
def FnExactZipUpUptoCardSaid : Prop := Claim7.holds Tryz.pinned (.plain (OpenSpec.upto fnExactZipUpSpec)) fnExactZipUpUptoCard

/-- THE SECOND FORM's CARD OF 'laws.FnExactZipSet'. -/
def fnExactZipSetUptoCard : Claim7 := { stood := { row := fnExactZipSetUptoRow, standIns := [], harness := (true, "5cd07346b5bfb805d2e08358d15c4592fcf7c3116e9e757cfb9f79be1bd59ef0"), looks := true }, kinds := [], alts := [], laidByText := true, laidKinds := [.data, .data, .data, .data, .sentinel, .sentinel, .pinned], laidTests := true, laidLooks := .later }
def FnExactZipSetUptoCardSaid : Prop := Claim7.holds Tryz.pinned (.plain (OpenSpec.upto fnExactZipSetSpec)) fnExactZipSetUptoCard

/-- THE SECOND FORM's CARD OF 'laws.FnExactZipKids'. -/
def fnExactZipKidsUptoCard : Claim7 := { stood := { row := fnExactZipKidsUptoRow, standIns := [], harness := (true, "5cd07346b5bfb805d2e08358d15c4592fcf7c3116e9e757cfb9f79be1bd59ef0"), looks := true }, kinds := [], alts := [], laidByText := true, laidKinds := [.data, .data, .data, .data, .sentinel, .sentinel, .pinned], laidTests := true, laidLooks := .later }
def FnExactZipKidsUptoCardSaid : Prop := Claim7.holds Tryz.pinned (.plain (OpenSpec.upto fnExactZipKidsSpec)) fnExactZipKidsUptoCard
end Rows
end Go.Proofs.YteglbjcjlamohaaGreatDoor
