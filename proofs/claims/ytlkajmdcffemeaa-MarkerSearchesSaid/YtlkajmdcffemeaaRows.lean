/-
  No cell of these rows narrows 'for every input' (looked for: loops, veiled, ifaces, maps, wideKeys, modest, calm, conditions, laid).
  DERIVED. THE GIVEN ROWS OF THIS SEAT. 8 by the template 'for every input the law returns true; each argument reads behind the call as it read before'; 0 by the template 'total and deterministic' (their statements: YtlkajmdcffemeaaTotals.lean).
  GIVEN WITH THE SEED: the statements are not yours to turn. If you find one false, say at which input.
  Laid BY PROGRAM, IN A SANDBOX (cutbox-rows.mjs): the forced cells as the released guide's own fill.sh prints them over the translation c6f1114c280ba570… (all of the seat's roots in one cut). By AI agents, Wed Nov 11 2026. No macro, syntax, notation, axiom, sorry.
-/
import Derived.Test.YtlkajmdcffemeaaChecked
import GoSem.Claim
import GoSem.ClaimJoined
import GoSem.ClaimMapViews
import Derived.JoinedTies
import Derived.KernelRfl
namespace Go.Proofs.Ytlkajmdcffemeaa
/- THE CELL 'sum', in the pinned program and in every row, IS THE sha256 OF THE DUMP (.gsa) THAT YtlkajmdcffemeaaProg.lean LOADS. Nothing in Lean hashes anything: it is a label: what it is worth is what the hold of that sum in a sandbox is worth. -/
noncomputable def Try.pinned : Pinned := { name := "ytlkajmdcffemeaa", sum := "c6f1114c280ba5708e4392d91439dcdcd4af8e6c5e4bd02ec9c6a29c6243ffa2", checked := Try.checked }
namespace Rows
def none {H : Type} : Left H := { results := [], args := [] }

/-- 'groovelaw49.MarkerLengths': WHATEVER THE INPUT: true; the input reads as it did. -/
def markerLengthsSpec : ChangeSpec := { name := "markerLengths", fn := fun _ => fun
  | [d1, d2, d3] => { results := [.lit (.bool true)], args := [d1, d2, d3] }
  | _ => none }
def markerLengthsRow : OpenClaim := { program := "ytlkajmdcffemeaa", sum := "c6f1114c280ba5708e4392d91439dcdcd4af8e6c5e4bd02ec9c6a29c6243ffa2", func := "groove/groovelaw49.MarkerLengths", spec := "markerLengths", inPlace := ["internal/bytealg.IndexByteString", "internal/abi.NoEscape"], unfollowed := true, recurses := true, apart := false }
def MarkerLengthsSaid : Prop := markerLengthsRow.holds Try.pinned (OpenSpec.ofChange markerLengthsSpec)

/-- ITS FALSE NEIGHBOUR: 'it returns false'. Refute it at one input. -/
def markerLengthsWrong : ChangeSpec := { name := "markerLengths", fn := fun _ => fun
  | [d1, d2, d3] => { results := [.lit (.bool false)], args := [d1, d2, d3] }
  | _ => none }
def MarkerLengthsWrongFalsely : Prop := markerLengthsRow.holds Try.pinned (OpenSpec.ofChange markerLengthsWrong)

/-- 'groovelaw49.MarkerTexts': WHATEVER THE INPUT: true; the input reads as it did. -/
def markerTextsSpec : ChangeSpec := { name := "markerTexts", fn := fun _ => fun
  | [d1, d2, d3] => { results := [.lit (.bool true)], args := [d1, d2, d3] }
  | _ => none }
def markerTextsRow : OpenClaim := { program := "ytlkajmdcffemeaa", sum := "c6f1114c280ba5708e4392d91439dcdcd4af8e6c5e4bd02ec9c6a29c6243ffa2", func := "groove/groovelaw49.MarkerTexts", spec := "markerTexts", inPlace := ["internal/bytealg.IndexByteString", "internal/abi.NoEscape"], unfollowed := true, recurses := true, apart := false }
def MarkerTextsSaid : Prop := markerTextsRow.holds Try.pinned (OpenSpec.ofChange markerTextsSpec)

/-- ITS FALSE NEIGHBOUR: 'it returns false'. Refute it at one input. -/
def markerTextsWrong : ChangeSpec := { name := "markerTexts", fn := fun _ => fun
  | [d1, d2, d3] => { results := [.lit (.bool false)], args := [d1, d2, d3] }
  | _ => none }
def MarkerTextsWrongFalsely : Prop := markerTextsRow.holds Try.pinned (OpenSpec.ofChange markerTextsWrong)

/-- 'groovelaw49.MarkerRounds': WHATEVER THE INPUT: true; the input reads as it did. -/
def markerRoundsSpec : ChangeSpec := { name := "markerRounds", fn := fun _ => fun
  | [d1, d2, d3] => { results := [.lit (.bool true)], args := [d1, d2, d3] }
  | _ => none }
def markerRoundsRow : OpenClaim := { program := "ytlkajmdcffemeaa", sum := "c6f1114c280ba5708e4392d91439dcdcd4af8e6c5e4bd02ec9c6a29c6243ffa2", func := "groove/groovelaw49.MarkerRounds", spec := "markerRounds", inPlace := ["internal/bytealg.IndexByteString", "internal/abi.NoEscape"], unfollowed := true, recurses := true, apart := false }
def MarkerRoundsSaid : Prop := markerRoundsRow.holds Try.pinned (OpenSpec.ofChange markerRoundsSpec)

/-- ITS FALSE NEIGHBOUR: 'it returns false'. Refute it at one input. -/
def markerRoundsWrong : ChangeSpec := { name := "markerRounds", fn := fun _ => fun
  | [d1, d2, d3] => { results := [.lit (.bool false)], args := [d1, d2, d3] }
  | _ => none }
def MarkerRoundsWrongFalsely : Prop := markerRoundsRow.holds Try.pinned (OpenSpec.ofChange markerRoundsWrong)

/-- 'groovelaw49.MarkerLocates': WHATEVER THE INPUT: true; the input reads as it did. -/
def markerLocatesSpec : ChangeSpec := { name := "markerLocates", fn := fun _ => fun
  | [d1, d2, d3] => { results := [.lit (.bool true)], args := [d1, d2, d3] }
  | _ => none }
def markerLocatesRow : OpenClaim := { program := "ytlkajmdcffemeaa", sum := "c6f1114c280ba5708e4392d91439dcdcd4af8e6c5e4bd02ec9c6a29c6243ffa2", func := "groove/groovelaw49.MarkerLocates", spec := "markerLocates", inPlace := ["internal/bytealg.IndexByteString", "internal/abi.NoEscape"], unfollowed := true, recurses := true, apart := false }
def MarkerLocatesSaid : Prop := markerLocatesRow.holds Try.pinned (OpenSpec.ofChange markerLocatesSpec)

/-- ITS FALSE NEIGHBOUR: 'it returns false'. Refute it at one input. -/
def markerLocatesWrong : ChangeSpec := { name := "markerLocates", fn := fun _ => fun
  | [d1, d2, d3] => { results := [.lit (.bool false)], args := [d1, d2, d3] }
  | _ => none }
def MarkerLocatesWrongFalsely : Prop := markerLocatesRow.holds Try.pinned (OpenSpec.ofChange markerLocatesWrong)

/-- 'groovelaw49.MarkerRests': WHATEVER THE INPUT: true; the input reads as it did. -/
def markerRestsSpec : ChangeSpec := { name := "markerRests", fn := fun _ => fun
  | [d1, d2, d3] => { results := [.lit (.bool true)], args := [d1, d2, d3] }
  | _ => none }
def markerRestsRow : OpenClaim := { program := "ytlkajmdcffemeaa", sum := "c6f1114c280ba5708e4392d91439dcdcd4af8e6c5e4bd02ec9c6a29c6243ffa2", func := "groove/groovelaw49.MarkerRests", spec := "markerRests", inPlace := ["internal/bytealg.IndexByteString", "internal/abi.NoEscape"], unfollowed := true, recurses := true, apart := false }
def MarkerRestsSaid : Prop := markerRestsRow.holds Try.pinned (OpenSpec.ofChange markerRestsSpec)

/-- ITS FALSE NEIGHBOUR: 'it returns false'. Refute it at one input. -/
def markerRestsWrong : ChangeSpec := { name := "markerRests", fn := fun _ => fun
  | [d1, d2, d3] => { results := [.lit (.bool false)], args := [d1, d2, d3] }
  | _ => none }
def MarkerRestsWrongFalsely : Prop := markerRestsRow.holds Try.pinned (OpenSpec.ofChange markerRestsWrong)

/-- 'groovelaw49.MarkerSlips': WHATEVER THE INPUT: true; the input reads as it did. -/
def markerSlipsSpec : ChangeSpec := { name := "markerSlips", fn := fun _ => fun
  | [d1, d2, d3, d4, d5, d6] => { results := [.lit (.bool true)], args := [d1, d2, d3, d4, d5, d6] }
  | _ => none }
def markerSlipsRow : OpenClaim := { program := "ytlkajmdcffemeaa", sum := "c6f1114c280ba5708e4392d91439dcdcd4af8e6c5e4bd02ec9c6a29c6243ffa2", func := "groove/groovelaw49.MarkerSlips", spec := "markerSlips", inPlace := ["internal/bytealg.IndexByteString", "internal/abi.NoEscape"], unfollowed := true, recurses := true, apart := false }
def MarkerSlipsSaid : Prop := markerSlipsRow.holds Try.pinned (OpenSpec.ofChange markerSlipsSpec)

/-- ITS FALSE NEIGHBOUR: 'it returns false'. Refute it at one input. -/
def markerSlipsWrong : ChangeSpec := { name := "markerSlips", fn := fun _ => fun
  | [d1, d2, d3, d4, d5, d6] => { results := [.lit (.bool false)], args := [d1, d2, d3, d4, d5, d6] }
  | _ => none }
def MarkerSlipsWrongFalsely : Prop := markerSlipsRow.holds Try.pinned (OpenSpec.ofChange markerSlipsWrong)

/-- 'groovelaw49.MarkerSearches': WHATEVER THE INPUT: true; the input reads as it did. -/
def markerSearchesSpec : ChangeSpec := { name := "markerSearches", fn := fun _ => fun
  | [d1, d2, d3, d4] => { results := [.lit (.bool true)], args := [d1, d2, d3, d4] }
  | _ => none }
def markerSearchesRow : OpenClaim := { program := "ytlkajmdcffemeaa", sum := "c6f1114c280ba5708e4392d91439dcdcd4af8e6c5e4bd02ec9c6a29c6243ffa2", func := "groove/groovelaw49.MarkerSearches", spec := "markerSearches", inPlace := ["internal/bytealg.IndexByteString", "internal/abi.NoEscape"], unfollowed := true, recurses := true, apart := false }
def MarkerSearchesSaid : Prop := markerSearchesRow.holds Try.pinned (OpenSpec.ofChange markerSearchesSpec)

/-- ITS FALSE NEIGHBOUR: 'it returns false'. Refute it at one input. -/
def markerSearchesWrong : ChangeSpec := { name := "markerSearches", fn := fun _ => fun
  | [d1, d2, d3, d4] => { results := [.lit (.bool false)], args := [d1, d2, d3, d4] }
  | _ => none }
def MarkerSearchesWrongFalsely : Prop := markerSearchesRow.holds Try.pinned (OpenSpec.ofChange markerSearchesWrong)

/-- 'groovelaw49.MarkerFirst': WHATEVER THE INPUT: true; the input reads as it did. -/
def markerFirstSpec : ChangeSpec := { name := "markerFirst", fn := fun _ => fun
  | [d1, d2, d3] => { results := [.lit (.bool true)], args := [d1, d2, d3] }
  | _ => none }
def markerFirstRow : OpenClaim := { program := "ytlkajmdcffemeaa", sum := "c6f1114c280ba5708e4392d91439dcdcd4af8e6c5e4bd02ec9c6a29c6243ffa2", func := "groove/groovelaw49.MarkerFirst", spec := "markerFirst", inPlace := ["internal/bytealg.IndexByteString", "internal/abi.NoEscape"], unfollowed := true, recurses := true, apart := false }
def MarkerFirstSaid : Prop := markerFirstRow.holds Try.pinned (OpenSpec.ofChange markerFirstSpec)

/-- ITS FALSE NEIGHBOUR: 'it returns false'. Refute it at one input. -/
def markerFirstWrong : ChangeSpec := { name := "markerFirst", fn := fun _ => fun
  | [d1, d2, d3] => { results := [.lit (.bool false)], args := [d1, d2, d3] }
  | _ => none }
def MarkerFirstWrongFalsely : Prop := markerFirstRow.holds Try.pinned (OpenSpec.ofChange markerFirstWrong)

/- THE SECOND FORM. 'bulk': how many values and letters a reading holds, each counted each time it is reached (what is shared counts as often as it is met; a slice's spare places count too). A statement '..UptoSaid' is the law's where the arguments, and the package variables that the reading takes, are together of bulk at most 1048576: NARROWER than '..Said'. Prove '..Said' where nothing that the law and all that it calls make is longer than what came in: it says more and counts as full. Else prove '..UptoSaid'. A law counts once. -/
mutual
def uptoBulk {H : Type} : DataW H → Nat
  | .lit (.string bytes) => bytes.length + 1
  | .lit _ => 1
  | .nil => 1
  | .ptr d => uptoBulk d + 1
  | .slice elems spare => uptoBulkAll elems + uptoBulkAll spare + 1
  | .agg parts => uptoBulkAll parts + 1
  | .iface _ d => uptoBulk d + 1
  | .map entries => uptoBulkEntries entries + 1
  | .held _ => 1
def uptoBulkAll {H : Type} : List (DataW H) → Nat
  | [] => 0
  | d :: r => uptoBulk d + uptoBulkAll r
def uptoBulkEntries {H : Type} : List (Lit × DataW H) → Nat
  | [] => 0
  | x :: r => uptoBulkEntry x + uptoBulkEntries r
def uptoBulkEntry {H : Type} : Lit × DataW H → Nat
  | (.string bytes, d) => bytes.length + uptoBulk d + 1
  | (_, d) => uptoBulk d + 1
 end
def uptoSmall : (H : Type) → List (DataW H) → Bool := fun _ ds => decide (uptoBulkAll ds ≤ 1048576)
def OpenSpec.upto (s : _root_.Go.ChangeSpec) : _root_.Go.OpenSpec := { _root_.Go.OpenSpec.ofChange s with cond := some uptoSmall }

/-- 'groovelaw49.MarkerLengths', WHERE WHAT IT READS IS OF BULK AT MOST 1048576: true; the input reads as it did. -/
def markerLengthsUptoRow : OpenClaim := { program := "ytlkajmdcffemeaa", sum := "c6f1114c280ba5708e4392d91439dcdcd4af8e6c5e4bd02ec9c6a29c6243ffa2", func := "groove/groovelaw49.MarkerLengths", spec := "markerLengths", inPlace := ["internal/bytealg.IndexByteString", "internal/abi.NoEscape"], unfollowed := true, recurses := true, apart := false, narrowed := true }
def MarkerLengthsUptoSaid : Prop := markerLengthsUptoRow.holds Try.pinned (OpenSpec.upto markerLengthsSpec)

/-- 'groovelaw49.MarkerTexts', WHERE WHAT IT READS IS OF BULK AT MOST 1048576: true; the input reads as it did. -/
def markerTextsUptoRow : OpenClaim := { program := "ytlkajmdcffemeaa", sum := "c6f1114c280ba5708e4392d91439dcdcd4af8e6c5e4bd02ec9c6a29c6243ffa2", func := "groove/groovelaw49.MarkerTexts", spec := "markerTexts", inPlace := ["internal/bytealg.IndexByteString", "internal/abi.NoEscape"], unfollowed := true, recurses := true, apart := false, narrowed := true }
def MarkerTextsUptoSaid : Prop := markerTextsUptoRow.holds Try.pinned (OpenSpec.upto markerTextsSpec)

/-- 'groovelaw49.MarkerRounds', WHERE WHAT IT READS IS OF BULK AT MOST 1048576: true; the input reads as it did. -/
def markerRoundsUptoRow : OpenClaim := { program := "ytlkajmdcffemeaa", sum := "c6f1114c280ba5708e4392d91439dcdcd4af8e6c5e4bd02ec9c6a29c6243ffa2", func := "groove/groovelaw49.MarkerRounds", spec := "markerRounds", inPlace := ["internal/bytealg.IndexByteString", "internal/abi.NoEscape"], unfollowed := true, recurses := true, apart := false, narrowed := true }
def MarkerRoundsUptoSaid : Prop := markerRoundsUptoRow.holds Try.pinned (OpenSpec.upto markerRoundsSpec)

/-- 'groovelaw49.MarkerLocates', WHERE WHAT IT READS IS OF BULK AT MOST 1048576: true; the input reads as it did. -/
def markerLocatesUptoRow : OpenClaim := { program := "ytlkajmdcffemeaa", sum := "c6f1114c280ba5708e4392d91439dcdcd4af8e6c5e4bd02ec9c6a29c6243ffa2", func := "groove/groovelaw49.MarkerLocates", spec := "markerLocates", inPlace := ["internal/bytealg.IndexByteString", "internal/abi.NoEscape"], unfollowed := true, recurses := true, apart := false, narrowed := true }
def MarkerLocatesUptoSaid : Prop := markerLocatesUptoRow.holds Try.pinned (OpenSpec.upto markerLocatesSpec)

/-- 'groovelaw49.MarkerRests', WHERE WHAT IT READS IS OF BULK AT MOST 1048576: true; the input reads as it did. -/
def markerRestsUptoRow : OpenClaim := { program := "ytlkajmdcffemeaa", sum := "c6f1114c280ba5708e4392d91439dcdcd4af8e6c5e4bd02ec9c6a29c6243ffa2", func := "groove/groovelaw49.MarkerRests", spec := "markerRests", inPlace := ["internal/bytealg.IndexByteString", "internal/abi.NoEscape"], unfollowed := true, recurses := true, apart := false, narrowed := true }
def MarkerRestsUptoSaid : Prop := markerRestsUptoRow.holds Try.pinned (OpenSpec.upto markerRestsSpec)

/-- 'groovelaw49.MarkerSlips', WHERE WHAT IT READS IS OF BULK AT MOST 1048576: true; the input reads as it did. -/
def markerSlipsUptoRow : OpenClaim := { program := "ytlkajmdcffemeaa", sum := "c6f1114c280ba5708e4392d91439dcdcd4af8e6c5e4bd02ec9c6a29c6243ffa2", func := "groove/groovelaw49.MarkerSlips", spec := "markerSlips", inPlace := ["internal/bytealg.IndexByteString", "internal/abi.NoEscape"], unfollowed := true, recurses := true, apart := false, narrowed := true }
def MarkerSlipsUptoSaid : Prop := markerSlipsUptoRow.holds Try.pinned (OpenSpec.upto markerSlipsSpec)

/-- 'groovelaw49.MarkerSearches', WHERE WHAT IT READS IS OF BULK AT MOST 1048576: true; the input reads as it did. -/
def markerSearchesUptoRow : OpenClaim := { program := "ytlkajmdcffemeaa", sum := "c6f1114c280ba5708e4392d91439dcdcd4af8e6c5e4bd02ec9c6a29c6243ffa2", func := "groove/groovelaw49.MarkerSearches", spec := "markerSearches", inPlace := ["internal/bytealg.IndexByteString", "internal/abi.NoEscape"], unfollowed := true, recurses := true, apart := false, narrowed := true }
def MarkerSearchesUptoSaid : Prop := markerSearchesUptoRow.holds Try.pinned (OpenSpec.upto markerSearchesSpec)

/-- 'groovelaw49.MarkerFirst', WHERE WHAT IT READS IS OF BULK AT MOST 1048576: true; the input reads as it did. -/
def markerFirstUptoRow : OpenClaim := { program := "ytlkajmdcffemeaa", sum := "c6f1114c280ba5708e4392d91439dcdcd4af8e6c5e4bd02ec9c6a29c6243ffa2", func := "groove/groovelaw49.MarkerFirst", spec := "markerFirst", inPlace := ["internal/bytealg.IndexByteString", "internal/abi.NoEscape"], unfollowed := true, recurses := true, apart := false, narrowed := true }
def MarkerFirstUptoSaid : Prop := markerFirstUptoRow.holds Try.pinned (OpenSpec.upto markerFirstSpec)

end Rows
end Go.Proofs.Ytlkajmdcffemeaa
