/-
  No cell of these rows narrows 'for every input' (looked for: loops, veiled, ifaces, maps, wideKeys, modest, calm, conditions, laid).
  DERIVED. THE GIVEN ROWS OF THIS SEAT. 4 by the template 'for every input the law returns true; each argument reads behind the call as it read before'; 0 by the template 'total and deterministic' (their statements: YtcafeffgaokiaaaTotals.lean).
  GIVEN WITH THE SEED: the statements are not yours to turn. If you find one false, say at which input.
  Laid BY PROGRAM, IN A SANDBOX (cutbox-rows.mjs): the forced cells as the released guide's own fill.sh prints them over the translation 267e7fd9149ca260… (all of the seat's roots in one cut). By AI agents, Wed Nov 11 2026. No macro, syntax, notation, axiom, sorry.
-/
import Derived.Test.YtcafeffgaokiaaaChecked
import GoSem.Claim
import GoSem.ClaimJoined
import GoSem.ClaimMapViews
import Derived.JoinedTies
import Derived.KernelRfl
namespace Go.Proofs.Ytcafeffgaokiaaa
/- THE CELL 'sum', in the pinned program and in every row, IS THE sha256 OF THE DUMP (.gsa) THAT YtcafeffgaokiaaaProg.lean LOADS. Nothing in Lean hashes anything: it is a label: what it is worth is what the hold of that sum in a sandbox is worth. -/
noncomputable def Try.pinned : Pinned := { name := "ytcafeffgaokiaaa", sum := "267e7fd9149ca260870598a16a4698ad3c35e54f7625410a6398f4635ea3b4c3", checked := Try.checked }
namespace Rows
def none {H : Type} : Left H := { results := [], args := [] }

/-- 'groovetop.TopDamaged': WHATEVER THE INPUT: true; the input reads as it did. -/
def topDamagedSpec : ChangeSpec := { name := "topDamaged", fn := fun _ => fun
  | [d1, d2, d3, d4, d5] => { results := [.lit (.bool true)], args := [d1, d2, d3, d4, d5] }
  | _ => none }
def topDamagedRow : OpenClaim := { program := "ytcafeffgaokiaaa", sum := "267e7fd9149ca260870598a16a4698ad3c35e54f7625410a6398f4635ea3b4c3", func := "groove/groovetop.TopDamaged", spec := "topDamaged", inPlace := ["internal/bytealg.IndexByteString", "internal/bytealg.abigen_runtime_cmpstring", "internal/abi.NoEscape"], unfollowed := true, recurses := true, plainKeys := false, apart := false }
def TopDamagedSaid : Prop := topDamagedRow.holds Try.pinned (OpenSpec.ofChange topDamagedSpec)

/-- ITS FALSE NEIGHBOUR: 'it returns false'. Refute it at one input. -/
def topDamagedWrong : ChangeSpec := { name := "topDamaged", fn := fun _ => fun
  | [d1, d2, d3, d4, d5] => { results := [.lit (.bool false)], args := [d1, d2, d3, d4, d5] }
  | _ => none }
def TopDamagedWrongFalsely : Prop := topDamagedRow.holds Try.pinned (OpenSpec.ofChange topDamagedWrong)

/-- 'groovelaw28.PropagationWorst': WHATEVER THE INPUT: true; the input reads as it did. -/
def propagationWorstSpec : ChangeSpec := { name := "propagationWorst", fn := fun _ => fun
  | [d1, d2, d3] => { results := [.lit (.bool true)], args := [d1, d2, d3] }
  | _ => none }
def propagationWorstRow : OpenClaim := { program := "ytcafeffgaokiaaa", sum := "267e7fd9149ca260870598a16a4698ad3c35e54f7625410a6398f4635ea3b4c3", func := "groove/groovelaw28.PropagationWorst", spec := "propagationWorst", inPlace := ["internal/bytealg.IndexByteString", "internal/bytealg.abigen_runtime_cmpstring"], unfollowed := true, recurses := true, plainKeys := false, apart := false }
def PropagationWorstSaid : Prop := propagationWorstRow.holds Try.pinned (OpenSpec.ofChange propagationWorstSpec)

/-- ITS FALSE NEIGHBOUR: 'it returns false'. Refute it at one input. -/
def propagationWorstWrong : ChangeSpec := { name := "propagationWorst", fn := fun _ => fun
  | [d1, d2, d3] => { results := [.lit (.bool false)], args := [d1, d2, d3] }
  | _ => none }
def PropagationWorstWrongFalsely : Prop := propagationWorstRow.holds Try.pinned (OpenSpec.ofChange propagationWorstWrong)

/-- 'groovelaw28.PropagationGreatest': WHATEVER THE INPUT: true; the input reads as it did. -/
def propagationGreatestSpec : ChangeSpec := { name := "propagationGreatest", fn := fun _ => fun
  | [d1, d2, d3, d4, d5, d6] => { results := [.lit (.bool true)], args := [d1, d2, d3, d4, d5, d6] }
  | _ => none }
def propagationGreatestRow : OpenClaim := { program := "ytcafeffgaokiaaa", sum := "267e7fd9149ca260870598a16a4698ad3c35e54f7625410a6398f4635ea3b4c3", func := "groove/groovelaw28.PropagationGreatest", spec := "propagationGreatest", inPlace := ["internal/bytealg.IndexByteString", "internal/bytealg.abigen_runtime_cmpstring", "internal/abi.NoEscape"], unfollowed := true, recurses := true, plainKeys := false, apart := false }
def PropagationGreatestSaid : Prop := propagationGreatestRow.holds Try.pinned (OpenSpec.ofChange propagationGreatestSpec)

/-- ITS FALSE NEIGHBOUR: 'it returns false'. Refute it at one input. -/
def propagationGreatestWrong : ChangeSpec := { name := "propagationGreatest", fn := fun _ => fun
  | [d1, d2, d3, d4, d5, d6] => { results := [.lit (.bool false)], args := [d1, d2, d3, d4, d5, d6] }
  | _ => none }
def PropagationGreatestWrongFalsely : Prop := propagationGreatestRow.holds Try.pinned (OpenSpec.ofChange propagationGreatestWrong)

/-- 'groovetop.TopMergedDecoder': WHATEVER THE INPUT: true; the input reads as it did. -/
def topMergedDecoderSpec : ChangeSpec := { name := "topMergedDecoder", fn := fun _ => fun
  | [d] => { results := [.lit (.bool true)], args := [d] }
  | _ => none }
def topMergedDecoderRow : OpenClaim := { program := "ytcafeffgaokiaaa", sum := "267e7fd9149ca260870598a16a4698ad3c35e54f7625410a6398f4635ea3b4c3", func := "groove/groovetop.TopMergedDecoder", spec := "topMergedDecoder", inPlace := ["internal/bytealg.IndexByteString", "internal/bytealg.abigen_runtime_cmpstring"], unfollowed := true, recurses := true, plainKeys := false, apart := false }
def TopMergedDecoderSaid : Prop := topMergedDecoderRow.holds Try.pinned (OpenSpec.ofChange topMergedDecoderSpec)

/-- ITS FALSE NEIGHBOUR: 'it returns false'. Refute it at one input. -/
def topMergedDecoderWrong : ChangeSpec := { name := "topMergedDecoder", fn := fun _ => fun
  | [d] => { results := [.lit (.bool false)], args := [d] }
  | _ => none }
def TopMergedDecoderWrongFalsely : Prop := topMergedDecoderRow.holds Try.pinned (OpenSpec.ofChange topMergedDecoderWrong)

/- THE SECOND FORM. 'bulk': how many values and letters a reading holds, each counted each time it is reached (what is shared counts as often as it is met; a slice's spare places count too). A statement '..UptoSaid' is the law's where the arguments, and the package variables that the reading takes, are together of bulk at most 1048576: NARROWER than '..Said'. Prove '..Said' where nothing that the law and all that it calls make is longer than what came in: it says more and counts as full. Else prove '..UptoSaid'. A law counts once. -/
mutual
def uptoBulk {H : Type} : DataW H → Nat
  | .lit (.string bytes) => bytes.length + 1
  | .lit _ => 1
  | .nil => 1
  | .ptr d => uptoBulk d + 1
  | .slice elems spare => uptoBulkAll elems + uptoBulkAll spare + 1
  | .agg parts => uptoBulkAll parts + 1
  | .iface _ d => uptoBulk d + 1
  | .map entries => uptoBulkEntries entries + 1
  | .held _ => 1
def uptoBulkAll {H : Type} : List (DataW H) → Nat
  | [] => 0
  | d :: r => uptoBulk d + uptoBulkAll r
def uptoBulkEntries {H : Type} : List (Lit × DataW H) → Nat
  | [] => 0
  | x :: r => uptoBulkEntry x + uptoBulkEntries r
def uptoBulkEntry {H : Type} : Lit × DataW H → Nat
  | (.string bytes, d) => bytes.length + uptoBulk d + 1
  | (_, d) => uptoBulk d + 1
 end
def uptoSmall : (H : Type) → List (DataW H) → Bool := fun _ ds => decide (uptoBulkAll ds ≤ 1048576)
def OpenSpec.upto (s : _root_.Go.ChangeSpec) : _root_.Go.OpenSpec := { _root_.Go.OpenSpec.ofChange s with cond := some uptoSmall }

/-- 'groovetop.TopDamaged', WHERE WHAT IT READS IS OF BULK AT MOST 1048576: true; the input reads as it did. -/
def topDamagedUptoRow : OpenClaim := { program := "ytcafeffgaokiaaa", sum := "267e7fd9149ca260870598a16a4698ad3c35e54f7625410a6398f4635ea3b4c3", func := "groove/groovetop.TopDamaged", spec := "topDamaged", inPlace := ["internal/bytealg.IndexByteString", "internal/bytealg.abigen_runtime_cmpstring", "internal/abi.NoEscape"], unfollowed := true, recurses := true, plainKeys := false, apart := false, narrowed := true }
def TopDamagedUptoSaid : Prop := topDamagedUptoRow.holds Try.pinned (OpenSpec.upto topDamagedSpec)

/-- 'groovelaw28.PropagationWorst', WHERE WHAT IT READS IS OF BULK AT MOST 1048576: true; the input reads as it did. -/
def propagationWorstUptoRow : OpenClaim := { program := "ytcafeffgaokiaaa", sum := "267e7fd9149ca260870598a16a4698ad3c35e54f7625410a6398f4635ea3b4c3", func := "groove/groovelaw28.PropagationWorst", spec := "propagationWorst", inPlace := ["internal/bytealg.IndexByteString", "internal/bytealg.abigen_runtime_cmpstring"], unfollowed := true, recurses := true, plainKeys := false, apart := false, narrowed := true }
def PropagationWorstUptoSaid : Prop := propagationWorstUptoRow.holds Try.pinned (OpenSpec.upto propagationWorstSpec)

/-- 'groovelaw28.PropagationGreatest', WHERE WHAT IT READS IS OF BULK AT MOST 1048576: true; the input reads as it did. -/
def propagationGreatestUptoRow : OpenClaim := { program := "ytcafeffgaokiaaa", sum := "267e7fd9149ca260870598a16a4698ad3c35e54f7625410a6398f4635ea3b4c3", func := "groove/groovelaw28.PropagationGreatest", spec := "propagationGreatest", inPlace := ["internal/bytealg.IndexByteString", "internal/bytealg.abigen_runtime_cmpstring", "internal/abi.NoEscape"], unfollowed := true, recurses := true, plainKeys := false, apart := false, narrowed := true }
def PropagationGreatestUptoSaid : Prop := propagationGreatestUptoRow.holds Try.pinned (OpenSpec.upto propagationGreatestSpec)

/-- 'groovetop.TopMergedDecoder', WHERE WHAT IT READS IS OF BULK AT MOST 1048576: true; the input reads as it did. -/
def topMergedDecoderUptoRow : OpenClaim := { program := "ytcafeffgaokiaaa", sum := "267e7fd9149ca260870598a16a4698ad3c35e54f7625410a6398f4635ea3b4c3", func := "groove/groovetop.TopMergedDecoder", spec := "topMergedDecoder", inPlace := ["internal/bytealg.IndexByteString", "internal/bytealg.abigen_runtime_cmpstring"], unfollowed := true, recurses := true, plainKeys := false, apart := false, narrowed := true }
def TopMergedDecoderUptoSaid : Prop := topMergedDecoderUptoRow.holds Try.pinned (OpenSpec.upto topMergedDecoderSpec)

end Rows
end Go.Proofs.Ytcafeffgaokiaaa
