/-
  DERIVED. GIVEN WITH THE SEED: THE CARDS: each row of YtmbamcpndbimaaaGreatDoorRows.lean that lists a variable, with what it lists TIED to the program's text (the seventh form; the later family's looks); each row that meets fmt, with fmt's text TOLD by the authors' own Lean function (tested against real Go, not proved from fmt's source: count such statements apart). THE CARD IS WHAT COUNTS. Prove the row's statement (the work); the ties are given (YtmbamcpndbimaaaGreatDoorTie.lean); close each card by the builder's one call (the guide's Derived/Test/ToyasCard.lean, 'card_holds'). Laid BY PROGRAM, IN A SANDBOX (cutbox-door.mjs). By AI agents, Wed Nov 11 2026. No macro, syntax, notation, axiom, sorry.
-/
import Derived.Test.YtmbamcpndbimaaaGreatDoorRows
import GoSem.ClaimSeven
namespace Go.Proofs.YtmbamcpndbimaaaGreatDoor
namespace Rows

/-- THE TIED CARD OF 'groovelaw03.PolynomialValues'. -/
def polynomialValuesCard : Claim7 := { stood := { row := polynomialValuesRow, standIns := [], harness := (true, "e7a6ce13e5759ed1bf03047cc355fb1a1e820d62822c470f26626b709fea7048"), looks := false }, kinds := [], alts := [], laidByText := true, laidKinds := [.data, .data, .data], laidTests := true, laidLooks := .later }
def PolynomialValuesCardSaid : Prop := Claim7.holds Tryz.pinned (.plain (OpenSpec.ofChange polynomialValuesSpec)) polynomialValuesCard

/-- THE SECOND FORM's CARD OF 'groovelaw03.PolynomialValues'. -/
def polynomialValuesUptoCard : Claim7 := { stood := { row := polynomialValuesUptoRow, standIns := [], harness := (true, "e7a6ce13e5759ed1bf03047cc355fb1a1e820d62822c470f26626b709fea7048"), looks := false }, kinds := [], alts := [], laidByText := true, laidKinds := [.data, .data, .data], laidTests := true, laidLooks := .later }
def PolynomialValuesUptoCardSaid : Prop := Claim7.holds Tryz.pinned (.plain (OpenSpec.upto polynomialValuesSpec)) polynomialValuesUptoCard
end Rows
end Go.Proofs.YtmbamcpndbimaaaGreatDoor
