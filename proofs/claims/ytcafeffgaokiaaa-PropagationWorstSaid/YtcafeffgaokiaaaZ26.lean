/- grooveref01: value, Add, Mul at canonical numbers. -/
import Derived.Test.YtcafeffgaokiaaaZ23
import Derived.Test.YtcafeffgaokiaaaZ22
import Derived.Test.YtcafeffgaokiaaaZ25
namespace Go.Proofs.Ytcafeffgaokiaaa
open Go.RowKit Go.Shelf

theorem canon_bval (x : Int) : bval (canon x).mag.data.toList = x.natAbs := by
  show bval (beb x.natAbs) = _
  exact bval_beb _
theorem canon_neg (x : Int) : (canon x).neg = decide (x < 0) := rfl
end Go.Proofs.Ytcafeffgaokiaaa
