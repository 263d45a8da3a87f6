/-
  DERIVED. GIVEN WITH THE SEED: THE CARDS: each row of YteoemijgdcpopaaDoorRows.lean that lists a variable, with what it lists TIED to the program's text (the seventh form; the later family's looks); each row that meets fmt, with fmt's text TOLD by the authors' own Lean function (tested against real Go, not proved from fmt's source: count such statements apart). THE CARD IS WHAT COUNTS. Prove the row's statement (the work); the ties are given (YteoemijgdcpopaaDoorTie.lean); close each card by the builder's one call (the guide's Derived/Test/ToyasCard.lean, 'card_holds'). Laid BY PROGRAM, IN A SANDBOX (cutbox-door.mjs). By AI agents, Wed Nov 11 2026. No macro, syntax, notation, axiom, sorry.
-/
import Derived.Test.YteoemijgdcpopaaDoorRows
import GoSem.ClaimSeven
namespace Go.Proofs.YteoemijgdcpopaaDoor
namespace Rows

/-- THE TIED CARD OF 'groovelaw03.PolynomialTexts'. -/
def polynomialTextsCard : Claim7 := { stood := { row := polynomialTextsRow, standIns := [], harness := (true, "8897e6e9cef2cb5f4577ad56fa29a1fc659555bb397c57866bf895acf99fb9c4"), looks := false }, kinds := [], alts := [], laidByText := true, laidKinds := [.data, .data, .data], laidTests := true, laidLooks := .later }
def PolynomialTextsCardSaid : Prop := Claim7.holds Tryd.pinned (.plain (OpenSpec.ofChange polynomialTextsSpec)) polynomialTextsCard

/-- THE TIED CARD OF 'groovelaw03.PolynomialProducts'. -/
def polynomialProductsCard : Claim7 := { stood := { row := polynomialProductsRow, standIns := [], harness := (true, "8897e6e9cef2cb5f4577ad56fa29a1fc659555bb397c57866bf895acf99fb9c4"), looks := false }, kinds := [], alts := [], laidByText := true, laidKinds := [.data, .data, .data], laidTests := true, laidLooks := .later }
def PolynomialProductsCardSaid : Prop := Claim7.holds Tryd.pinned (.plain (OpenSpec.ofChange polynomialProductsSpec)) polynomialProductsCard

/-- THE TIED CARD OF 'groovelaw03.PolynomialSums'. -/
def polynomialSumsCard : Claim7 := { stood := { row := polynomialSumsRow, standIns := [], harness := (true, "8897e6e9cef2cb5f4577ad56fa29a1fc659555bb397c57866bf895acf99fb9c4"), looks := false }, kinds := [], alts := [], laidByText := true, laidKinds := [.data, .data, .data], laidTests := true, laidLooks := .later }
def PolynomialSumsCardSaid : Prop := Claim7.holds Tryd.pinned (.plain (OpenSpec.ofChange polynomialSumsSpec)) polynomialSumsCard

/-- THE TIED CARD OF 'groovelaw03.PolynomialCommon'. -/
def polynomialCommonCard : Claim7 := { stood := { row := polynomialCommonRow, standIns := [], harness := (true, "8897e6e9cef2cb5f4577ad56fa29a1fc659555bb397c57866bf895acf99fb9c4"), looks := false }, kinds := [], alts := [], laidByText := true, laidKinds := [.data, .data, .data], laidTests := true, laidLooks := .later }
def PolynomialCommonCardSaid : Prop := Claim7.holds Tryd.pinned (.plain (OpenSpec.ofChange polynomialCommonSpec)) polynomialCommonCard

/-- THE TIED CARD OF 'groovelaw03.PolynomialDivides'. -/
def polynomialDividesCard : Claim7 := { stood := { row := polynomialDividesRow, standIns := [], harness := (true, "8897e6e9cef2cb5f4577ad56fa29a1fc659555bb397c57866bf895acf99fb9c4"), looks := false }, kinds := [], alts := [], laidByText := true, laidKinds := [.data, .data, .data], laidTests := true, laidLooks := .later }
def PolynomialDividesCardSaid : Prop := Claim7.holds Tryd.pinned (.plain (OpenSpec.ofChange polynomialDividesSpec)) polynomialDividesCard

/-- THE TIED CARD OF 'groovelaw03.PolynomialRing'. -/
def polynomialRingCard : Claim7 := { stood := { row := polynomialRingRow, standIns := [], harness := (true, "8897e6e9cef2cb5f4577ad56fa29a1fc659555bb397c57866bf895acf99fb9c4"), looks := false }, kinds := [], alts := [], laidByText := true, laidKinds := [.data, .data, .data], laidTests := true, laidLooks := .later }
def PolynomialRingCardSaid : Prop := Claim7.holds Tryd.pinned (.plain (OpenSpec.ofChange polynomialRingSpec)) polynomialRingCard

/-- THE TIED CARD OF 'groovelaw03.PolynomialSimple'. -/
def polynomialSimpleCard : Claim7 := { stood := { row := polynomialSimpleRow, standIns := [], harness := (true, "8897e6e9cef2cb5f4577ad56fa29a1fc659555bb397c57866bf895acf99fb9c4"), looks := false }, kinds := [], alts := [], laidByText := true, laidKinds := [.data, .data, .data], laidTests := true, laidLooks := .later }
def PolynomialSimpleCardSaid : Prop := Claim7.holds Tryd.pinned (.plain (OpenSpec.ofChange polynomialSimpleSpec)) polynomialSimpleCard

/-- THE TIED CARD OF 'groovelaw03.PolynomialRules'. -/
def polynomialRulesCard : Claim7 := { stood := { row := polynomialRulesRow, standIns := [], harness := (true, "8897e6e9cef2cb5f4577ad56fa29a1fc659555bb397c57866bf895acf99fb9c4"), looks := false }, kinds := [], alts := [], laidByText := true, laidKinds := [.data, .data, .data], laidTests := true, laidLooks := .later }
def PolynomialRulesCardSaid : Prop := Claim7.holds Tryd.pinned (.plain (OpenSpec.ofChange polynomialRulesSpec)) polynomialRulesCard

/-- THE SECOND FORM's CARD OF 'groovelaw03.PolynomialTexts'. -/
def polynomialTextsUptoCard : Claim7 := { stood := { row := polynomialTextsUptoRow, standIns := [], harness := (true, "8897e6e9cef2cb5f4577ad56fa29a1fc659555bb397c57866bf895acf99fb9c4"), looks := false }, kinds := [], alts := [], laidByText := true, laidKinds := [.data, .data, .data], laidTests := true, laidLooks := .later }
def PolynomialTextsUptoCardSaid : Prop := Claim7.holds Tryd.pinned (.plain (OpenSpec.upto polynomialTextsSpec)) polynomialTextsUptoCard

/-- THE SECOND FORM's CARD OF 'groovelaw03.PolynomialProducts'. -/
def polynomialProductsUptoCard : Claim7 := { stood := { row := polynomialProductsUptoRow, standIns := [], harness := (true, "8897e6e9cef2cb5f4577ad56fa29a1fc659555bb397c57866bf895acf99fb9c4"), looks := false }, kinds := [], alts := [], laidByText := true, laidKinds := [.data, .data, .data], laidTests := true, laidLooks := .later }
def PolynomialProductsUptoCardSaid : Prop := Claim7.holds Tryd.pinned (.plain (OpenSpec.upto polynomialProductsSpec)) polynomialProductsUptoCard

/-- THE SECOND FORM's CARD OF 'groovelaw03.PolynomialSums'. -/
def polynomialSumsUptoCard : Claim7 := { stood := { row := polynomialSumsUptoRow, standIns := [], harness := (true, "8897e6e9cef2cb5f4577ad56fa29a1fc659555bb397c57866bf895acf99fb9c4"), looks := false }, kinds := [], alts := [], laidByText := true, laidKinds := [.data, .data, .data], laidTests := true, laidLooks := .later }
def PolynomialSumsUptoCardSaid : Prop := Claim7.holds Tryd.pinned (.plain (OpenSpec.upto polynomialSumsSpec)) polynomialSumsUptoCard

/-- THE SECOND FORM's CARD OF 'groovelaw03.PolynomialCommon'. -/
def polynomialCommonUptoCard : Claim7 := { stood := { row := polynomialCommonUptoRow, standIns := [], harness := (true, "8897e6e9cef2cb5f4577ad56fa29a1fc659555bb397c57866bf895acf99fb9c4"), looks := false }, kinds := [], alts := [], laidByText := true, laidKinds := [.data, .data, .data], laidTests := true, laidLooks := .later }
def PolynomialCommonUptoCardSaid : Prop := Claim7.holds Tryd.pinned (.plain (OpenSpec.upto polynomialCommonSpec)) polynomialCommonUptoCard

/-- THE SECOND FORM's CARD OF 'groovelaw03.PolynomialDivides'. -/
def polynomialDividesUptoCard : Claim7 := { stood := { row := polynomialDividesUptoRow, standIns := [], harness := (true, "8897e6e9cef2cb5f4577ad56fa29a1fc659555bb397c57866bf895acf99fb9c4"), looks := false }, kinds := [], alts := [], laidByText := true, laidKinds := [.data, .data, .data], laidTests := true, laidLooks := .later }
def PolynomialDividesUptoCardSaid : Prop := Claim7.holds Tryd.pinned (.plain (OpenSpec.upto polynomialDividesSpec)) polynomialDividesUptoCard

/-- THE SECOND FORM's CARD OF 'groovelaw03.PolynomialRing'. -/
def polynomialRingUptoCard : Claim7 := { stood := { row := polynomialRingUptoRow, standIns := [], harness := (true, "8897e6e9cef2cb5f4577ad56fa29a1fc659555bb397c57866bf895acf99fb9c4"), looks := false }, kinds := [], alts := [], laidByText := true, laidKinds := [.data, .data, .data], laidTests := true, laidLooks := .later }
def PolynomialRingUptoCardSaid : Prop := Claim7.holds Tryd.pinned (.plain (OpenSpec.upto polynomialRingSpec)) polynomialRingUptoCard

/-- THE SECOND FORM's CARD OF 'groovelaw03.PolynomialSimple'. -/
def polynomialSimpleUptoCard : Claim7 := { stood := { row := polynomialSimpleUptoRow, standIns := [], harness := (true, "8897e6e9cef2cb5f4577ad56fa29a1fc659555bb397c57866bf895acf99fb9c4"), looks := false }, kinds := [], alts := [], laidByText := true, laidKinds := [.data, .data, .data], laidTests := true, laidLooks := .later }
def PolynomialSimpleUptoCardSaid : Prop := Claim7.holds Tryd.pinned (.plain (OpenSpec.upto polynomialSimpleSpec)) polynomialSimpleUptoCard

/-- THE SECOND FORM's CARD OF 'groovelaw03.PolynomialRules'. -/
def polynomialRulesUptoCard : Claim7 := { stood := { row := polynomialRulesUptoRow, standIns := [], harness := (true, "8897e6e9cef2cb5f4577ad56fa29a1fc659555bb397c57866bf895acf99fb9c4"), looks := false }, kinds := [], alts := [], laidByText := true, laidKinds := [.data, .data, .data], laidTests := true, laidLooks := .later }
def PolynomialRulesUptoCardSaid : Prop := Claim7.holds Tryd.pinned (.plain (OpenSpec.upto polynomialRulesSpec)) polynomialRulesUptoCard
end Rows
end Go.Proofs.YteoemijgdcpopaaDoor
