/-
  DERIVED. GIVEN WITH THE SEED: THE CARDS: each row of YtgcockcngllkaaaDoorRows.lean that lists a variable, with what it lists TIED to the program's text (the seventh form; the later family's looks); each row that meets fmt, with fmt's text TOLD by the authors' own Lean function (tested against real Go, not proved from fmt's source: count such statements apart). THE CARD IS WHAT COUNTS. Prove the row's statement (the work); the ties are given (YtgcockcngllkaaaDoorTie.lean); close each card by the builder's one call (the guide's Derived/Test/ToyasCard.lean, 'card_holds'). Laid BY PROGRAM, IN A SANDBOX (cutbox-door.mjs). By AI agents, Wed Nov 11 2026. No macro, syntax, notation, axiom, sorry.
-/
import Derived.Test.YtgcockcngllkaaaDoorRows
import GoSem.ClaimSeven
namespace Go.Proofs.YtgcockcngllkaaaDoor
namespace Rows

/-- THE TIED CARD OF 'laws.FnExactCodeCount'. -/
def fnExactCodeCountCard : Claim7 := { stood := { row := fnExactCodeCountRow, standIns := [], harness := (true, "9af6c86ee8d67eb00917d92a7d9a57f9f00d2e6b6fb1886ac736ae16fc967457"), looks := false }, kinds := [], alts := [], laidByText := true, laidKinds := [.data, .pinned], laidTests := true, laidLooks := .later }
def FnExactCodeCountCardSaid : Prop := Claim7.holds Tryd.pinned (.plain (OpenSpec.ofChange fnExactCodeCountSpec)) fnExactCodeCountCard

/-- THE TIED CARD OF 'laws.FnExactCodeValue'. -/
def fnExactCodeValueCard : Claim7 := { stood := { row := fnExactCodeValueRow, standIns := [], harness := (true, "9af6c86ee8d67eb00917d92a7d9a57f9f00d2e6b6fb1886ac736ae16fc967457"), looks := false }, kinds := [], alts := [], laidByText := true, laidKinds := [.data, .data, .data, .data, .pinned], laidTests := true, laidLooks := .later }
def FnExactCodeValueCardSaid : Prop := Claim7.holds Tryd.pinned (.plain (OpenSpec.ofChange fnExactCodeValueSpec)) fnExactCodeValueCard

/-- THE TIED CARD OF 'laws.FnExactPolyOf'. -/
def fnExactPolyOfCard : Claim7 := { stood := { row := fnExactPolyOfRow, standIns := [], harness := (true, "9af6c86ee8d67eb00917d92a7d9a57f9f00d2e6b6fb1886ac736ae16fc967457"), looks := false }, kinds := [], alts := [], laidByText := true, laidKinds := [.data, .pinned], laidTests := true, laidLooks := .later }
def FnExactPolyOfCardSaid : Prop := Claim7.holds Tryd.pinned (.plain (OpenSpec.ofChange fnExactPolyOfSpec)) fnExactPolyOfCard

/-- THE SECOND FORM's CARD OF 'laws.FnExactCodeCount'. -/
def fnExactCodeCountUptoCard : Claim7 := { stood := { row := fnExactCodeCountUptoRow, standIns := [], harness := (true, "9af6c86ee8d67eb00917d92a7d9a57f9f00d2e6b6fb1886ac736ae16fc967457"), looks := false }, kinds := [], alts := [], laidByText := true, laidKinds := [.data, .pinned], laidTests := true, laidLooks := .later }
def FnExactCodeCountUptoCardSaid : Prop := Claim7.holds Tryd.pinned (.plain (OpenSpec.upto fnExactCodeCountSpec)) fnExactCodeCountUptoCard

/-- THE SECOND FORM's CARD OF 'laws.FnExactCodeValue'. -/
def fnExactCodeValueUptoCard : Claim7 := { stood := { row := fnExactCodeValueUptoRow, standIns := [], harness := (true, "9af6c86ee8d67eb00917d92a7d9a57f9f00d2e6b6fb1886ac736ae16fc967457"), looks := false }, kinds := [], alts := [], laidByText := true, laidKinds := [.data, .data, .data, .data, .pinned], laidTests := true, laidLooks := .later }
def FnExactCodeValueUptoCardSaid : Prop := Claim7.holds Tryd.pinned (.plain (OpenSpec.upto fnExactCodeValueSpec)) fnExactCodeValueUptoCard

/-- THE SECOND FORM's CARD OF 'laws.FnExactPolyOf'. -/
def fnExactPolyOfUptoCard : Claim7 := { stood := { row := fnExactPolyOfUptoRow, standIns := [], harness := (true, "9af6c86ee8d67eb00917d92a7d9a57f9f00d2e6b6fb1886ac736ae16fc967457"), looks := false }, kinds := [], alts := [], laidByText := true, laidKinds := [.data, .pinned], laidTests := true, laidLooks := .later }
def FnExactPolyOfUptoCardSaid : Prop := Claim7.holds Tryd.pinned (.plain (OpenSpec.upto fnExactPolyOfSpec)) fnExactPolyOfUptoCard
end Rows
end Go.Proofs.YtgcockcngllkaaaDoor
