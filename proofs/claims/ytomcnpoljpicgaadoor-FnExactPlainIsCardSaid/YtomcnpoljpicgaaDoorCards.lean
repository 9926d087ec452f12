/-
  DERIVED. GIVEN WITH THE SEED: THE CARDS: each row of YtomcnpoljpicgaaDoorRows.lean that lists a variable, with what it lists TIED to the program's text (the seventh form; the later family's looks); each row that meets fmt, with fmt's text TOLD by the authors' own Lean function (tested against real Go, not proved from fmt's source: count such statements apart). THE CARD IS WHAT COUNTS. Prove the row's statement (the work); the ties are given (YtomcnpoljpicgaaDoorTie.lean); close each card by the builder's one call (the guide's Derived/Test/ToyasCard.lean, 'card_holds'). Laid BY PROGRAM, IN A SANDBOX (cutbox-door.mjs). By AI agents, Wed Nov 11 2026. No macro, syntax, notation, axiom, sorry.
-/
import Derived.Test.YtomcnpoljpicgaaDoorRows
import GoSem.ClaimSeven
namespace Go.Proofs.YtomcnpoljpicgaaDoor
namespace Rows

/-- THE TIED CARD OF 'laws.FnExactPlainIs'. -/
def fnExactPlainIsCard : Claim7 := { stood := { row := fnExactPlainIsRow, standIns := [], harness := (true, "c5acc6a14f9d865ba8a17d980cc1f4ef17386ce1431d0e20d82fbb0f71a693d7"), looks := false }, kinds := [], alts := [], laidByText := true, laidKinds := [.data, .pinned], laidTests := true, laidLooks := .later }
def FnExactPlainIsCardSaid : Prop := Claim7.holds Tryd.pinned (.plain (OpenSpec.ofChange fnExactPlainIsSpec)) fnExactPlainIsCard

/-- THE SECOND FORM's CARD OF 'laws.FnExactPlainIs'. -/
def fnExactPlainIsUptoCard : Claim7 := { stood := { row := fnExactPlainIsUptoRow, standIns := [], harness := (true, "c5acc6a14f9d865ba8a17d980cc1f4ef17386ce1431d0e20d82fbb0f71a693d7"), looks := false }, kinds := [], alts := [], laidByText := true, laidKinds := [.data, .pinned], laidTests := true, laidLooks := .later }
def FnExactPlainIsUptoCardSaid : Prop := Claim7.holds Tryd.pinned (.plain (OpenSpec.upto fnExactPlainIsSpec)) fnExactPlainIsUptoCard
end Rows
end Go.Proofs.YtomcnpoljpicgaaDoor
