/-
  No cell of these rows narrows 'for every input' (looked for: loops, veiled, ifaces, maps, wideKeys, modest, calm, conditions, laid).
  DERIVED. THE GIVEN ROWS OF THIS SEAT. 9 by the template 'for every input the law returns true; each argument reads behind the call as it read before'; 0 by the template 'total and deterministic' (their statements: YtlkoiekdafaapaaTotals.lean).
  GIVEN WITH THE SEED: the statements are not yours to turn. If you find one false, say at which input.
  Laid BY PROGRAM, IN A SANDBOX (cutbox-rows.mjs): the forced cells as the released guide's own fill.sh prints them over the translation 13c70aaa719af8bc… (all of the seat's roots in one cut). By AI agents, Wed Nov 11 2026. No macro, syntax, notation, axiom, sorry.
-/
import Derived.Test.YtlkoiekdafaapaaChecked
import GoSem.Claim
import GoSem.ClaimJoined
import GoSem.ClaimMapViews
import Derived.JoinedTies
import Derived.KernelRfl
namespace Go.Proofs.Ytlkoiekdafaapaa
/- THE CELL 'sum', in the pinned program and in every row, IS THE sha256 OF THE DUMP (.gsa) THAT YtlkoiekdafaapaaProg.lean LOADS. Nothing in Lean hashes anything: it is a label: what it is worth is what the hold of that sum in a sandbox is worth. -/
noncomputable def Try.pinned : Pinned := { name := "ytlkoiekdafaapaa", sum := "13c70aaa719af8bcd03c69e7fb098e4e8663580f0242919a9f2d0e8a83f0f175", checked := Try.checked }
namespace Rows
def none {H : Type} : Left H := { results := [], args := [] }

/-- 'groovelaw04.MatrixPowers': WHATEVER THE INPUT: true; the input reads as it did. -/
def matrixPowersSpec : ChangeSpec := { name := "matrixPowers", fn := fun _ => fun
  | [d1, d2] => { results := [.lit (.bool true)], args := [d1, d2] }
  | _ => none }
def matrixPowersRow : OpenClaim := { program := "ytlkoiekdafaapaa", sum := "13c70aaa719af8bcd03c69e7fb098e4e8663580f0242919a9f2d0e8a83f0f175", func := "groove/groovelaw04.MatrixPowers", spec := "matrixPowers", unfollowed := true, recurses := true, apart := false }
def MatrixPowersSaid : Prop := matrixPowersRow.holds Try.pinned (OpenSpec.ofChange matrixPowersSpec)

/-- ITS FALSE NEIGHBOUR: 'it returns false'. Refute it at one input. -/
def matrixPowersWrong : ChangeSpec := { name := "matrixPowers", fn := fun _ => fun
  | [d1, d2] => { results := [.lit (.bool false)], args := [d1, d2] }
  | _ => none }
def MatrixPowersWrongFalsely : Prop := matrixPowersRow.holds Try.pinned (OpenSpec.ofChange matrixPowersWrong)

/-- 'groovelaw04.MatrixDeterminants': WHATEVER THE INPUT: true; the input reads as it did. -/
def matrixDeterminantsSpec : ChangeSpec := { name := "matrixDeterminants", fn := fun _ => fun
  | [d] => { results := [.lit (.bool true)], args := [d] }
  | _ => none }
def matrixDeterminantsRow : OpenClaim := { program := "ytlkoiekdafaapaa", sum := "13c70aaa719af8bcd03c69e7fb098e4e8663580f0242919a9f2d0e8a83f0f175", func := "groove/groovelaw04.MatrixDeterminants", spec := "matrixDeterminants", unfollowed := true, recurses := true, apart := false }
def MatrixDeterminantsSaid : Prop := matrixDeterminantsRow.holds Try.pinned (OpenSpec.ofChange matrixDeterminantsSpec)

/-- ITS FALSE NEIGHBOUR: 'it returns false'. Refute it at one input. -/
def matrixDeterminantsWrong : ChangeSpec := { name := "matrixDeterminants", fn := fun _ => fun
  | [d] => { results := [.lit (.bool false)], args := [d] }
  | _ => none }
def MatrixDeterminantsWrongFalsely : Prop := matrixDeterminantsRow.holds Try.pinned (OpenSpec.ofChange matrixDeterminantsWrong)

/-- 'groovelaw04.MatrixExponents': WHATEVER THE INPUT: true; the input reads as it did. -/
def matrixExponentsSpec : ChangeSpec := { name := "matrixExponents", fn := fun _ => fun
  | [d1, d2, d3, d4, d5] => { results := [.lit (.bool true)], args := [d1, d2, d3, d4, d5] }
  | _ => none }
def matrixExponentsRow : OpenClaim := { program := "ytlkoiekdafaapaa", sum := "13c70aaa719af8bcd03c69e7fb098e4e8663580f0242919a9f2d0e8a83f0f175", func := "groove/groovelaw04.MatrixExponents", spec := "matrixExponents", unfollowed := true, recurses := true, apart := false }
def MatrixExponentsSaid : Prop := matrixExponentsRow.holds Try.pinned (OpenSpec.ofChange matrixExponentsSpec)

/-- ITS FALSE NEIGHBOUR: 'it returns false'. Refute it at one input. -/
def matrixExponentsWrong : ChangeSpec := { name := "matrixExponents", fn := fun _ => fun
  | [d1, d2, d3, d4, d5] => { results := [.lit (.bool false)], args := [d1, d2, d3, d4, d5] }
  | _ => none }
def MatrixExponentsWrongFalsely : Prop := matrixExponentsRow.holds Try.pinned (OpenSpec.ofChange matrixExponentsWrong)

/-- 'groovelaw04.MatrixProduct': WHATEVER THE INPUT: true; the input reads as it did. -/
def matrixProductSpec : ChangeSpec := { name := "matrixProduct", fn := fun _ => fun
  | [d1, d2] => { results := [.lit (.bool true)], args := [d1, d2] }
  | _ => none }
def matrixProductRow : OpenClaim := { program := "ytlkoiekdafaapaa", sum := "13c70aaa719af8bcd03c69e7fb098e4e8663580f0242919a9f2d0e8a83f0f175", func := "groove/groovelaw04.MatrixProduct", spec := "matrixProduct", unfollowed := true, recurses := true, apart := false }
def MatrixProductSaid : Prop := matrixProductRow.holds Try.pinned (OpenSpec.ofChange matrixProductSpec)

/-- ITS FALSE NEIGHBOUR: 'it returns false'. Refute it at one input. -/
def matrixProductWrong : ChangeSpec := { name := "matrixProduct", fn := fun _ => fun
  | [d1, d2] => { results := [.lit (.bool false)], args := [d1, d2] }
  | _ => none }
def MatrixProductWrongFalsely : Prop := matrixProductRow.holds Try.pinned (OpenSpec.ofChange matrixProductWrong)

/-- 'groovelaw04.MatrixCayley': WHATEVER THE INPUT: true; the input reads as it did. -/
def matrixCayleySpec : ChangeSpec := { name := "matrixCayley", fn := fun _ => fun
  | [d] => { results := [.lit (.bool true)], args := [d] }
  | _ => none }
def matrixCayleyRow : OpenClaim := { program := "ytlkoiekdafaapaa", sum := "13c70aaa719af8bcd03c69e7fb098e4e8663580f0242919a9f2d0e8a83f0f175", func := "groove/groovelaw04.MatrixCayley", spec := "matrixCayley", unfollowed := true, recurses := true, apart := false }
def MatrixCayleySaid : Prop := matrixCayleyRow.holds Try.pinned (OpenSpec.ofChange matrixCayleySpec)

/-- ITS FALSE NEIGHBOUR: 'it returns false'. Refute it at one input. -/
def matrixCayleyWrong : ChangeSpec := { name := "matrixCayley", fn := fun _ => fun
  | [d] => { results := [.lit (.bool false)], args := [d] }
  | _ => none }
def MatrixCayleyWrongFalsely : Prop := matrixCayleyRow.holds Try.pinned (OpenSpec.ofChange matrixCayleyWrong)

/-- 'groovetop.TopTraces': WHATEVER THE INPUT: true; the input reads as it did. -/
def topTracesSpec : ChangeSpec := { name := "topTraces", fn := fun _ => fun
  | [d1, d2] => { results := [.lit (.bool true)], args := [d1, d2] }
  | _ => none }
def topTracesRow : OpenClaim := { program := "ytlkoiekdafaapaa", sum := "13c70aaa719af8bcd03c69e7fb098e4e8663580f0242919a9f2d0e8a83f0f175", func := "groove/groovetop.TopTraces", spec := "topTraces", unfollowed := true, recurses := true, apart := false }
def TopTracesSaid : Prop := topTracesRow.holds Try.pinned (OpenSpec.ofChange topTracesSpec)

/-- ITS FALSE NEIGHBOUR: 'it returns false'. Refute it at one input. -/
def topTracesWrong : ChangeSpec := { name := "topTraces", fn := fun _ => fun
  | [d1, d2] => { results := [.lit (.bool false)], args := [d1, d2] }
  | _ => none }
def TopTracesWrongFalsely : Prop := topTracesRow.holds Try.pinned (OpenSpec.ofChange topTracesWrong)

/-- 'groovelaw04.MatrixSums': WHATEVER THE INPUT: true; the input reads as it did. -/
def matrixSumsSpec : ChangeSpec := { name := "matrixSums", fn := fun _ => fun
  | [d1, d2, d3, d4] => { results := [.lit (.bool true)], args := [d1, d2, d3, d4] }
  | _ => none }
def matrixSumsRow : OpenClaim := { program := "ytlkoiekdafaapaa", sum := "13c70aaa719af8bcd03c69e7fb098e4e8663580f0242919a9f2d0e8a83f0f175", func := "groove/groovelaw04.MatrixSums", spec := "matrixSums", unfollowed := true, recurses := true, apart := false }
def MatrixSumsSaid : Prop := matrixSumsRow.holds Try.pinned (OpenSpec.ofChange matrixSumsSpec)

/-- ITS FALSE NEIGHBOUR: 'it returns false'. Refute it at one input. -/
def matrixSumsWrong : ChangeSpec := { name := "matrixSums", fn := fun _ => fun
  | [d1, d2, d3, d4] => { results := [.lit (.bool false)], args := [d1, d2, d3, d4] }
  | _ => none }
def MatrixSumsWrongFalsely : Prop := matrixSumsRow.holds Try.pinned (OpenSpec.ofChange matrixSumsWrong)

/-- 'groovetop.TopOrbits': WHATEVER THE INPUT: true; the input reads as it did. -/
def topOrbitsSpec : ChangeSpec := { name := "topOrbits", fn := fun _ => fun
  | [d1, d2] => { results := [.lit (.bool true)], args := [d1, d2] }
  | _ => none }
def topOrbitsRow : OpenClaim := { program := "ytlkoiekdafaapaa", sum := "13c70aaa719af8bcd03c69e7fb098e4e8663580f0242919a9f2d0e8a83f0f175", func := "groove/groovetop.TopOrbits", spec := "topOrbits", unfollowed := true, recurses := true, apart := false }
def TopOrbitsSaid : Prop := topOrbitsRow.holds Try.pinned (OpenSpec.ofChange topOrbitsSpec)

/-- ITS FALSE NEIGHBOUR: 'it returns false'. Refute it at one input. -/
def topOrbitsWrong : ChangeSpec := { name := "topOrbits", fn := fun _ => fun
  | [d1, d2] => { results := [.lit (.bool false)], args := [d1, d2] }
  | _ => none }
def TopOrbitsWrongFalsely : Prop := topOrbitsRow.holds Try.pinned (OpenSpec.ofChange topOrbitsWrong)

/-- 'groovelaw04.MatrixRing': WHATEVER THE INPUT: true; the input reads as it did. -/
def matrixRingSpec : ChangeSpec := { name := "matrixRing", fn := fun _ => fun
  | [d1, d2, d3] => { results := [.lit (.bool true)], args := [d1, d2, d3] }
  | _ => none }
def matrixRingRow : OpenClaim := { program := "ytlkoiekdafaapaa", sum := "13c70aaa719af8bcd03c69e7fb098e4e8663580f0242919a9f2d0e8a83f0f175", func := "groove/groovelaw04.MatrixRing", spec := "matrixRing", unfollowed := true, recurses := true, apart := false }
def MatrixRingSaid : Prop := matrixRingRow.holds Try.pinned (OpenSpec.ofChange matrixRingSpec)

/-- ITS FALSE NEIGHBOUR: 'it returns false'. Refute it at one input. -/
def matrixRingWrong : ChangeSpec := { name := "matrixRing", fn := fun _ => fun
  | [d1, d2, d3] => { results := [.lit (.bool false)], args := [d1, d2, d3] }
  | _ => none }
def MatrixRingWrongFalsely : Prop := matrixRingRow.holds Try.pinned (OpenSpec.ofChange matrixRingWrong)

/- THE SECOND FORM. 'bulk': how many values and letters a reading holds, each counted each time it is reached (what is shared counts as often as it is met; a slice's spare places count too). A statement '..UptoSaid' is the law's where the arguments, and the package variables that the reading takes, are together of bulk at most 1048576: NARROWER than '..Said'. Prove '..Said' where nothing that the law and all that it calls make is longer than what came in: it says more and counts as full. Else prove '..UptoSaid'. A law counts once. -/
mutual
def uptoBulk {H : Type} : DataW H → Nat
  | .lit (.string bytes) => bytes.length + 1
  | .lit _ => 1
  | .nil => 1
  | .ptr d => uptoBulk d + 1
  | .slice elems spare => uptoBulkAll elems + uptoBulkAll spare + 1
  | .agg parts => uptoBulkAll parts + 1
  | .iface _ d => uptoBulk d + 1
  | .map entries => uptoBulkEntries entries + 1
  | .held _ => 1
def uptoBulkAll {H : Type} : List (DataW H) → Nat
  | [] => 0
  | d :: r => uptoBulk d + uptoBulkAll r
def uptoBulkEntries {H : Type} : List (Lit × DataW H) → Nat
  | [] => 0
  | x :: r => uptoBulkEntry x + uptoBulkEntries r
def uptoBulkEntry {H : Type} : Lit × DataW H → Nat
  | (.string bytes, d) => bytes.length + uptoBulk d + 1
  | (_, d) => uptoBulk d + 1
 end
def uptoSmall : (H : Type) → List (DataW H) → Bool := fun _ ds => decide (uptoBulkAll ds ≤ 1048576)
def OpenSpec.upto (s : _root_.Go.ChangeSpec) : _root_.Go.OpenSpec := { _root_.Go.OpenSpec.ofChange s with cond := some uptoSmall }

/-- 'groovelaw04.MatrixPowers', WHERE WHAT IT READS IS OF BULK AT MOST 1048576: true; the input reads as it did. -/
def matrixPowersUptoRow : OpenClaim := { program := "ytlkoiekdafaapaa", sum := "13c70aaa719af8bcd03c69e7fb098e4e8663580f0242919a9f2d0e8a83f0f175", func := "groove/groovelaw04.MatrixPowers", spec := "matrixPowers", unfollowed := true, recurses := true, apart := false, narrowed := true }
def MatrixPowersUptoSaid : Prop := matrixPowersUptoRow.holds Try.pinned (OpenSpec.upto matrixPowersSpec)

/-- 'groovelaw04.MatrixDeterminants', WHERE WHAT IT READS IS OF BULK AT MOST 1048576: true; the input reads as it did. -/
def matrixDeterminantsUptoRow : OpenClaim := { program := "ytlkoiekdafaapaa", sum := "13c70aaa719af8bcd03c69e7fb098e4e8663580f0242919a9f2d0e8a83f0f175", func := "groove/groovelaw04.MatrixDeterminants", spec := "matrixDeterminants", unfollowed := true, recurses := true, apart := false, narrowed := true }
def MatrixDeterminantsUptoSaid : Prop := matrixDeterminantsUptoRow.holds Try.pinned (OpenSpec.upto matrixDeterminantsSpec)

/-- 'groovelaw04.MatrixExponents', WHERE WHAT IT READS IS OF BULK AT MOST 1048576: true; the input reads as it did. -/
def matrixExponentsUptoRow : OpenClaim := { program := "ytlkoiekdafaapaa", sum := "13c70aaa719af8bcd03c69e7fb098e4e8663580f0242919a9f2d0e8a83f0f175", func := "groove/groovelaw04.MatrixExponents", spec := "matrixExponents", unfollowed := true, recurses := true, apart := false, narrowed := true }
def MatrixExponentsUptoSaid : Prop := matrixExponentsUptoRow.holds Try.pinned (OpenSpec.upto matrixExponentsSpec)

/-- 'groovelaw04.MatrixProduct', WHERE WHAT IT READS IS OF BULK AT MOST 1048576: true; the input reads as it did. -/
def matrixProductUptoRow : OpenClaim := { program := "ytlkoiekdafaapaa", sum := "13c70aaa719af8bcd03c69e7fb098e4e8663580f0242919a9f2d0e8a83f0f175", func := "groove/groovelaw04.MatrixProduct", spec := "matrixProduct", unfollowed := true, recurses := true, apart := false, narrowed := true }
def MatrixProductUptoSaid : Prop := matrixProductUptoRow.holds Try.pinned (OpenSpec.upto matrixProductSpec)

/-- 'groovelaw04.MatrixCayley', WHERE WHAT IT READS IS OF BULK AT MOST 1048576: true; the input reads as it did. -/
def matrixCayleyUptoRow : OpenClaim := { program := "ytlkoiekdafaapaa", sum := "13c70aaa719af8bcd03c69e7fb098e4e8663580f0242919a9f2d0e8a83f0f175", func := "groove/groovelaw04.MatrixCayley", spec := "matrixCayley", unfollowed := true, recurses := true, apart := false, narrowed := true }
def MatrixCayleyUptoSaid : Prop := matrixCayleyUptoRow.holds Try.pinned (OpenSpec.upto matrixCayleySpec)

/-- 'groovetop.TopTraces', WHERE WHAT IT READS IS OF BULK AT MOST 1048576: true; the input reads as it did. -/
def topTracesUptoRow : OpenClaim := { program := "ytlkoiekdafaapaa", sum := "13c70aaa719af8bcd03c69e7fb098e4e8663580f0242919a9f2d0e8a83f0f175", func := "groove/groovetop.TopTraces", spec := "topTraces", unfollowed := true, recurses := true, apart := false, narrowed := true }
def TopTracesUptoSaid : Prop := topTracesUptoRow.holds Try.pinned (OpenSpec.upto topTracesSpec)

/-- 'groovelaw04.MatrixSums', WHERE WHAT IT READS IS OF BULK AT MOST 1048576: true; the input reads as it did. -/
def matrixSumsUptoRow : OpenClaim := { program := "ytlkoiekdafaapaa", sum := "13c70aaa719af8bcd03c69e7fb098e4e8663580f0242919a9f2d0e8a83f0f175", func := "groove/groovelaw04.MatrixSums", spec := "matrixSums", unfollowed := true, recurses := true, apart := false, narrowed := true }
def MatrixSumsUptoSaid : Prop := matrixSumsUptoRow.holds Try.pinned (OpenSpec.upto matrixSumsSpec)

/-- 'groovetop.TopOrbits', WHERE WHAT IT READS IS OF BULK AT MOST 1048576: true; the input reads as it did. -/
def topOrbitsUptoRow : OpenClaim := { program := "ytlkoiekdafaapaa", sum := "13c70aaa719af8bcd03c69e7fb098e4e8663580f0242919a9f2d0e8a83f0f175", func := "groove/groovetop.TopOrbits", spec := "topOrbits", unfollowed := true, recurses := true, apart := false, narrowed := true }
def TopOrbitsUptoSaid : Prop := topOrbitsUptoRow.holds Try.pinned (OpenSpec.upto topOrbitsSpec)

/-- 'groovelaw04.MatrixRing', WHERE WHAT IT READS IS OF BULK AT MOST 1048576: true; the input reads as it did. -/
def matrixRingUptoRow : OpenClaim := { program := "ytlkoiekdafaapaa", sum := "13c70aaa719af8bcd03c69e7fb098e4e8663580f0242919a9f2d0e8a83f0f175", func := "groove/groovelaw04.MatrixRing", spec := "matrixRing", unfollowed := true, recurses := true, apart := false, narrowed := true }
def MatrixRingUptoSaid : Prop := matrixRingUptoRow.holds Try.pinned (OpenSpec.upto matrixRingSpec)

end Rows
end Go.Proofs.Ytlkoiekdafaapaa
