/-
  DERIVED. GIVEN WITH THE SEED: THE CARDS: each row of YtmbamcpndbimaaaDoorRows.lean that lists a variable, with what it lists TIED to the program's text (the seventh form; the later family's looks); each row that meets fmt, with fmt's text TOLD by the authors' own Lean function (tested against real Go, not proved from fmt's source: count such statements apart). THE CARD IS WHAT COUNTS. Prove the row's statement (the work); the ties are given (YtmbamcpndbimaaaDoorTie.lean); close each card by the builder's one call (the guide's Derived/Test/ToyasCard.lean, 'card_holds'). Laid BY PROGRAM, IN A SANDBOX (cutbox-door.mjs). By AI agents, Wed Nov 11 2026. No macro, syntax, notation, axiom, sorry.
-/
import Derived.Test.YtmbamcpndbimaaaDoorRows
import GoSem.ClaimSeven
namespace Go.Proofs.YtmbamcpndbimaaaDoor
namespace Rows

/-- THE TIED CARD OF 'groovelaw03.PolynomialProducts'. -/
def polynomialProductsCard : Claim7 := { stood := { row := polynomialProductsRow, standIns := [], harness := (true, "397fafed384ad5b7c79b445fa4204876b2745c9cad2bfb17f14e10929c79ca99"), looks := false }, kinds := [], alts := [], laidByText := true, laidKinds := [.data, .data, .data], laidTests := true, laidLooks := .later }
def PolynomialProductsCardSaid : Prop := Claim7.holds Tryd.pinned (.plain (OpenSpec.ofChange polynomialProductsSpec)) polynomialProductsCard

/-- THE SECOND FORM's CARD OF 'groovelaw03.PolynomialProducts'. -/
def polynomialProductsUptoCard : Claim7 := { stood := { row := polynomialProductsUptoRow, standIns := [], harness := (true, "397fafed384ad5b7c79b445fa4204876b2745c9cad2bfb17f14e10929c79ca99"), looks := false }, kinds := [], alts := [], laidByText := true, laidKinds := [.data, .data, .data], laidTests := true, laidLooks := .later }
def PolynomialProductsUptoCardSaid : Prop := Claim7.holds Tryd.pinned (.plain (OpenSpec.upto polynomialProductsSpec)) polynomialProductsUptoCard
end Rows
end Go.Proofs.YtmbamcpndbimaaaDoor
