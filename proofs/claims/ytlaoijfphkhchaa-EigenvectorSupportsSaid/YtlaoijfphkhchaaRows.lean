/-
  No cell of these rows narrows 'for every input' (looked for: loops, veiled, ifaces, maps, wideKeys, modest, calm, conditions, laid).
  DERIVED. THE GIVEN ROWS OF THIS SEAT. 7 by the template 'for every input the law returns true; each argument reads behind the call as it read before'; 0 by the template 'total and deterministic' (their statements: YtlaoijfphkhchaaTotals.lean).
  GIVEN WITH THE SEED: the statements are not yours to turn. If you find one false, say at which input.
  Laid BY PROGRAM, IN A SANDBOX (cutbox-rows.mjs): the forced cells as the released guide's own fill.sh prints them over the translation 765ccb1edebc99bc… (all of the seat's roots in one cut). By AI agents, Wed Nov 11 2026. No macro, syntax, notation, axiom, sorry.
-/
import Derived.Test.YtlaoijfphkhchaaChecked
import GoSem.Claim
import GoSem.ClaimJoined
import GoSem.ClaimMapViews
import Derived.JoinedTies
import Derived.KernelRfl
namespace Go.Proofs.Ytlaoijfphkhchaa
/- THE CELL 'sum', in the pinned program and in every row, IS THE sha256 OF THE DUMP (.gsa) THAT YtlaoijfphkhchaaProg.lean LOADS. Nothing in Lean hashes anything: it is a label: what it is worth is what the hold of that sum in a sandbox is worth. -/
noncomputable def Try.pinned : Pinned := { name := "ytlaoijfphkhchaa", sum := "765ccb1edebc99bc97d9874063529b4338403f24b0d1cec5e6ff68770c519691", checked := Try.checked }
namespace Rows
def none {H : Type} : Left H := { results := [], args := [] }

/-- 'groovetop.TopOrbits': WHATEVER THE INPUT: true; the input reads as it did. -/
def topOrbitsSpec : ChangeSpec := { name := "topOrbits", fn := fun _ => fun
  | [d1, d2] => { results := [.lit (.bool true)], args := [d1, d2] }
  | _ => none }
def topOrbitsRow : OpenClaim := { program := "ytlaoijfphkhchaa", sum := "765ccb1edebc99bc97d9874063529b4338403f24b0d1cec5e6ff68770c519691", func := "groove/groovetop.TopOrbits", spec := "topOrbits", unfollowed := true, recurses := true, apart := false }
def TopOrbitsSaid : Prop := topOrbitsRow.holds Try.pinned (OpenSpec.ofChange topOrbitsSpec)

/-- ITS FALSE NEIGHBOUR: 'it returns false'. Refute it at one input. -/
def topOrbitsWrong : ChangeSpec := { name := "topOrbits", fn := fun _ => fun
  | [d1, d2] => { results := [.lit (.bool false)], args := [d1, d2] }
  | _ => none }
def TopOrbitsWrongFalsely : Prop := topOrbitsRow.holds Try.pinned (OpenSpec.ofChange topOrbitsWrong)

/-- 'groovelaw23.EigenvectorGreatest': WHATEVER THE INPUT: true; the input reads as it did. -/
def eigenvectorGreatestSpec : ChangeSpec := { name := "eigenvectorGreatest", fn := fun _ => fun
  | [d1, d2, d3, d4] => { results := [.lit (.bool true)], args := [d1, d2, d3, d4] }
  | _ => none }
def eigenvectorGreatestRow : OpenClaim := { program := "ytlaoijfphkhchaa", sum := "765ccb1edebc99bc97d9874063529b4338403f24b0d1cec5e6ff68770c519691", func := "groove/groovelaw23.EigenvectorGreatest", spec := "eigenvectorGreatest", unfollowed := true, recurses := true, apart := false }
def EigenvectorGreatestSaid : Prop := eigenvectorGreatestRow.holds Try.pinned (OpenSpec.ofChange eigenvectorGreatestSpec)

/-- ITS FALSE NEIGHBOUR: 'it returns false'. Refute it at one input. -/
def eigenvectorGreatestWrong : ChangeSpec := { name := "eigenvectorGreatest", fn := fun _ => fun
  | [d1, d2, d3, d4] => { results := [.lit (.bool false)], args := [d1, d2, d3, d4] }
  | _ => none }
def EigenvectorGreatestWrongFalsely : Prop := eigenvectorGreatestRow.holds Try.pinned (OpenSpec.ofChange eigenvectorGreatestWrong)

/-- 'groovelaw23.EigenvectorLeast': WHATEVER THE INPUT: true; the input reads as it did. -/
def eigenvectorLeastSpec : ChangeSpec := { name := "eigenvectorLeast", fn := fun _ => fun
  | [d1, d2, d3] => { results := [.lit (.bool true)], args := [d1, d2, d3] }
  | _ => none }
def eigenvectorLeastRow : OpenClaim := { program := "ytlaoijfphkhchaa", sum := "765ccb1edebc99bc97d9874063529b4338403f24b0d1cec5e6ff68770c519691", func := "groove/groovelaw23.EigenvectorLeast", spec := "eigenvectorLeast", unfollowed := true, recurses := true, apart := false }
def EigenvectorLeastSaid : Prop := eigenvectorLeastRow.holds Try.pinned (OpenSpec.ofChange eigenvectorLeastSpec)

/-- ITS FALSE NEIGHBOUR: 'it returns false'. Refute it at one input. -/
def eigenvectorLeastWrong : ChangeSpec := { name := "eigenvectorLeast", fn := fun _ => fun
  | [d1, d2, d3] => { results := [.lit (.bool false)], args := [d1, d2, d3] }
  | _ => none }
def EigenvectorLeastWrongFalsely : Prop := eigenvectorLeastRow.holds Try.pinned (OpenSpec.ofChange eigenvectorLeastWrong)

/-- 'groovelaw23.EigenvectorCombines': WHATEVER THE INPUT: true; the input reads as it did. -/
def eigenvectorCombinesSpec : ChangeSpec := { name := "eigenvectorCombines", fn := fun _ => fun
  | [d1, d2, d3, d4, d5] => { results := [.lit (.bool true)], args := [d1, d2, d3, d4, d5] }
  | _ => none }
def eigenvectorCombinesRow : OpenClaim := { program := "ytlaoijfphkhchaa", sum := "765ccb1edebc99bc97d9874063529b4338403f24b0d1cec5e6ff68770c519691", func := "groove/groovelaw23.EigenvectorCombines", spec := "eigenvectorCombines", unfollowed := true, recurses := true, apart := false }
def EigenvectorCombinesSaid : Prop := eigenvectorCombinesRow.holds Try.pinned (OpenSpec.ofChange eigenvectorCombinesSpec)

/-- ITS FALSE NEIGHBOUR: 'it returns false'. Refute it at one input. -/
def eigenvectorCombinesWrong : ChangeSpec := { name := "eigenvectorCombines", fn := fun _ => fun
  | [d1, d2, d3, d4, d5] => { results := [.lit (.bool false)], args := [d1, d2, d3, d4, d5] }
  | _ => none }
def EigenvectorCombinesWrongFalsely : Prop := eigenvectorCombinesRow.holds Try.pinned (OpenSpec.ofChange eigenvectorCombinesWrong)

/-- 'groovelaw23.EigenvectorFound': WHATEVER THE INPUT: true; the input reads as it did. -/
def eigenvectorFoundSpec : ChangeSpec := { name := "eigenvectorFound", fn := fun _ => fun
  | [d1, d2, d3, d4] => { results := [.lit (.bool true)], args := [d1, d2, d3, d4] }
  | _ => none }
def eigenvectorFoundRow : OpenClaim := { program := "ytlaoijfphkhchaa", sum := "765ccb1edebc99bc97d9874063529b4338403f24b0d1cec5e6ff68770c519691", func := "groove/groovelaw23.EigenvectorFound", spec := "eigenvectorFound", unfollowed := true, recurses := true, apart := false }
def EigenvectorFoundSaid : Prop := eigenvectorFoundRow.holds Try.pinned (OpenSpec.ofChange eigenvectorFoundSpec)

/-- ITS FALSE NEIGHBOUR: 'it returns false'. Refute it at one input. -/
def eigenvectorFoundWrong : ChangeSpec := { name := "eigenvectorFound", fn := fun _ => fun
  | [d1, d2, d3, d4] => { results := [.lit (.bool false)], args := [d1, d2, d3, d4] }
  | _ => none }
def EigenvectorFoundWrongFalsely : Prop := eigenvectorFoundRow.holds Try.pinned (OpenSpec.ofChange eigenvectorFoundWrong)

/-- 'groovelaw23.EigenvectorRefuses': WHATEVER THE INPUT: true; the input reads as it did. -/
def eigenvectorRefusesSpec : ChangeSpec := { name := "eigenvectorRefuses", fn := fun _ => fun
  | [d1, d2, d3, d4] => { results := [.lit (.bool true)], args := [d1, d2, d3, d4] }
  | _ => none }
def eigenvectorRefusesRow : OpenClaim := { program := "ytlaoijfphkhchaa", sum := "765ccb1edebc99bc97d9874063529b4338403f24b0d1cec5e6ff68770c519691", func := "groove/groovelaw23.EigenvectorRefuses", spec := "eigenvectorRefuses", unfollowed := true, recurses := true, apart := false }
def EigenvectorRefusesSaid : Prop := eigenvectorRefusesRow.holds Try.pinned (OpenSpec.ofChange eigenvectorRefusesSpec)

/-- ITS FALSE NEIGHBOUR: 'it returns false'. Refute it at one input. -/
def eigenvectorRefusesWrong : ChangeSpec := { name := "eigenvectorRefuses", fn := fun _ => fun
  | [d1, d2, d3, d4] => { results := [.lit (.bool false)], args := [d1, d2, d3, d4] }
  | _ => none }
def EigenvectorRefusesWrongFalsely : Prop := eigenvectorRefusesRow.holds Try.pinned (OpenSpec.ofChange eigenvectorRefusesWrong)

/-- 'groovelaw23.EigenvectorSupports': WHATEVER THE INPUT: true; the input reads as it did. -/
def eigenvectorSupportsSpec : ChangeSpec := { name := "eigenvectorSupports", fn := fun _ => fun
  | [d1, d2, d3] => { results := [.lit (.bool true)], args := [d1, d2, d3] }
  | _ => none }
def eigenvectorSupportsRow : OpenClaim := { program := "ytlaoijfphkhchaa", sum := "765ccb1edebc99bc97d9874063529b4338403f24b0d1cec5e6ff68770c519691", func := "groove/groovelaw23.EigenvectorSupports", spec := "eigenvectorSupports", unfollowed := true, recurses := true, apart := false }
def EigenvectorSupportsSaid : Prop := eigenvectorSupportsRow.holds Try.pinned (OpenSpec.ofChange eigenvectorSupportsSpec)

/-- ITS FALSE NEIGHBOUR: 'it returns false'. Refute it at one input. -/
def eigenvectorSupportsWrong : ChangeSpec := { name := "eigenvectorSupports", fn := fun _ => fun
  | [d1, d2, d3] => { results := [.lit (.bool false)], args := [d1, d2, d3] }
  | _ => none }
def EigenvectorSupportsWrongFalsely : Prop := eigenvectorSupportsRow.holds Try.pinned (OpenSpec.ofChange eigenvectorSupportsWrong)

/- THE SECOND FORM. 'bulk': how many values and letters a reading holds, each counted each time it is reached (what is shared counts as often as it is met; a slice's spare places count too). A statement '..UptoSaid' is the law's where the arguments, and the package variables that the reading takes, are together of bulk at most 1048576: NARROWER than '..Said'. Prove '..Said' where nothing that the law and all that it calls make is longer than what came in: it says more and counts as full. Else prove '..UptoSaid'. A law counts once. -/
mutual
def uptoBulk {H : Type} : DataW H → Nat
  | .lit (.string bytes) => bytes.length + 1
  | .lit _ => 1
  | .nil => 1
  | .ptr d => uptoBulk d + 1
  | .slice elems spare => uptoBulkAll elems + uptoBulkAll spare + 1
  | .agg parts => uptoBulkAll parts + 1
  | .iface _ d => uptoBulk d + 1
  | .map entries => uptoBulkEntries entries + 1
  | .held _ => 1
def uptoBulkAll {H : Type} : List (DataW H) → Nat
  | [] => 0
  | d :: r => uptoBulk d + uptoBulkAll r
def uptoBulkEntries {H : Type} : List (Lit × DataW H) → Nat
  | [] => 0
  | x :: r => uptoBulkEntry x + uptoBulkEntries r
def uptoBulkEntry {H : Type} : Lit × DataW H → Nat
  | (.string bytes, d) => bytes.length + uptoBulk d + 1
  | (_, d) => uptoBulk d + 1
 end
def uptoSmall : (H : Type) → List (DataW H) → Bool := fun _ ds => decide (uptoBulkAll ds ≤ 1048576)
def OpenSpec.upto (s : _root_.Go.ChangeSpec) : _root_.Go.OpenSpec := { _root_.Go.OpenSpec.ofChange s with cond := some uptoSmall }

/-- 'groovetop.TopOrbits', WHERE WHAT IT READS IS OF BULK AT MOST 1048576: true; the input reads as it did. -/
def topOrbitsUptoRow : OpenClaim := { program := "ytlaoijfphkhchaa", sum := "765ccb1edebc99bc97d9874063529b4338403f24b0d1cec5e6ff68770c519691", func := "groove/groovetop.TopOrbits", spec := "topOrbits", unfollowed := true, recurses := true, apart := false, narrowed := true }
def TopOrbitsUptoSaid : Prop := topOrbitsUptoRow.holds Try.pinned (OpenSpec.upto topOrbitsSpec)

/-- 'groovelaw23.EigenvectorGreatest', WHERE WHAT IT READS IS OF BULK AT MOST 1048576: true; the input reads as it did. -/
def eigenvectorGreatestUptoRow : OpenClaim := { program := "ytlaoijfphkhchaa", sum := "765ccb1edebc99bc97d9874063529b4338403f24b0d1cec5e6ff68770c519691", func := "groove/groovelaw23.EigenvectorGreatest", spec := "eigenvectorGreatest", unfollowed := true, recurses := true, apart := false, narrowed := true }
def EigenvectorGreatestUptoSaid : Prop := eigenvectorGreatestUptoRow.holds Try.pinned (OpenSpec.upto eigenvectorGreatestSpec)

/-- 'groovelaw23.EigenvectorLeast', WHERE WHAT IT READS IS OF BULK AT MOST 1048576: true; the input reads as it did. -/
def eigenvectorLeastUptoRow : OpenClaim := { program := "ytlaoijfphkhchaa", sum := "765ccb1edebc99bc97d9874063529b4338403f24b0d1cec5e6ff68770c519691", func := "groove/groovelaw23.EigenvectorLeast", spec := "eigenvectorLeast", unfollowed := true, recurses := true, apart := false, narrowed := true }
def EigenvectorLeastUptoSaid : Prop := eigenvectorLeastUptoRow.holds Try.pinned (OpenSpec.upto eigenvectorLeastSpec)

/-- 'groovelaw23.EigenvectorCombines', WHERE WHAT IT READS IS OF BULK AT MOST 1048576: true; the input reads as it did. -/
def eigenvectorCombinesUptoRow : OpenClaim := { program := "ytlaoijfphkhchaa", sum := "765ccb1edebc99bc97d9874063529b4338403f24b0d1cec5e6ff68770c519691", func := "groove/groovelaw23.EigenvectorCombines", spec := "eigenvectorCombines", unfollowed := true, recurses := true, apart := false, narrowed := true }
def EigenvectorCombinesUptoSaid : Prop := eigenvectorCombinesUptoRow.holds Try.pinned (OpenSpec.upto eigenvectorCombinesSpec)

/-- 'groovelaw23.EigenvectorFound', WHERE WHAT IT READS IS OF BULK AT MOST 1048576: true; the input reads as it did. -/
def eigenvectorFoundUptoRow : OpenClaim := { program := "ytlaoijfphkhchaa", sum := "765ccb1edebc99bc97d9874063529b4338403f24b0d1cec5e6ff68770c519691", func := "groove/groovelaw23.EigenvectorFound", spec := "eigenvectorFound", unfollowed := true, recurses := true, apart := false, narrowed := true }
def EigenvectorFoundUptoSaid : Prop := eigenvectorFoundUptoRow.holds Try.pinned (OpenSpec.upto eigenvectorFoundSpec)

/-- 'groovelaw23.EigenvectorRefuses', WHERE WHAT IT READS IS OF BULK AT MOST 1048576: true; the input reads as it did. -/
def eigenvectorRefusesUptoRow : OpenClaim := { program := "ytlaoijfphkhchaa", sum := "765ccb1edebc99bc97d9874063529b4338403f24b0d1cec5e6ff68770c519691", func := "groove/groovelaw23.EigenvectorRefuses", spec := "eigenvectorRefuses", unfollowed := true, recurses := true, apart := false, narrowed := true }
def EigenvectorRefusesUptoSaid : Prop := eigenvectorRefusesUptoRow.holds Try.pinned (OpenSpec.upto eigenvectorRefusesSpec)

/-- 'groovelaw23.EigenvectorSupports', WHERE WHAT IT READS IS OF BULK AT MOST 1048576: true; the input reads as it did. -/
def eigenvectorSupportsUptoRow : OpenClaim := { program := "ytlaoijfphkhchaa", sum := "765ccb1edebc99bc97d9874063529b4338403f24b0d1cec5e6ff68770c519691", func := "groove/groovelaw23.EigenvectorSupports", spec := "eigenvectorSupports", unfollowed := true, recurses := true, apart := false, narrowed := true }
def EigenvectorSupportsUptoSaid : Prop := eigenvectorSupportsUptoRow.holds Try.pinned (OpenSpec.upto eigenvectorSupportsSpec)

end Rows
end Go.Proofs.Ytlaoijfphkhchaa
