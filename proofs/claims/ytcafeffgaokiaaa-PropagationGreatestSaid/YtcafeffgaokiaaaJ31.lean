/- grooveref01.Gcd at any size: the walk. grooveref01: mag and Of of numbers of one digit; Compare with zero; grooveref02.sign. grooveref01: Compare with zero; grooveref02.sign. -/
import Derived.Test.YtcafeffgaokiaaaJ22
import Derived.Test.YtcafeffgaokiaaaJ30
import Derived.Test.YtcafeffgaokiaaaJ17
import Derived.Test.YtcafeffgaokiaaaJ18
import Derived.Test.YtcafeffgaokiaaaJ15
import Derived.Test.YtcafeffgaokiaaaJ16
import Derived.Laws.IdiomStrings
import Derived.Deep.RegionWith
namespace Go.Proofs.Ytcafeffgaokiaaa
open Go.RowKit Go.Shelf
end Go.Proofs.Ytcafeffgaokiaaa
namespace Go.Proofs.Ytcafeffgaokiaaa
open Go.RowKit

end Go.Proofs.Ytcafeffgaokiaaa
namespace Go.Proofs.Ytcafeffgaokiaaa
open Go.RowKit

theorem BoxAt.call {w w' : World} {g : Nat} {a b : Value} (h : BoxAt w g a b) (hb : Below w.heap.size w w') : BoxAt w' g a b := h.below hb h.2.2.2.2
end Go.Proofs.Ytcafeffgaokiaaa
