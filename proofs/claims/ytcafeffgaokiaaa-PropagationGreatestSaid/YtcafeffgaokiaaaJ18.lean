/- grooveref01: mag and Of of numbers of one digit. Numbers as bytes: digits, sums, places. grooveref01: addMag. grooveref01: subMag. grooveref01: compareMag. grooveref01: mulMag. grooveref01: mag and Of of any number. -/
import Derived.Test.YtcafeffgaokiaaaJ14
import Derived.Laws.IdiomStrings
import Derived.Test.YtcafeffgaokiaaaJ17
import Derived.Laws.Strings
namespace Go.Proofs.Ytcafeffgaokiaaa
open Go.RowKit

end Go.Proofs.Ytcafeffgaokiaaa

namespace Go.Proofs.Ytcafeffgaokiaaa
open Go.RowKit

/-- A number by its digits, the highest first. -/
def hN (f : Nat → Nat) : Nat → Nat
  | 0 => 0
  | n + 1 => hN f n * 256 + f n
end Go.Proofs.Ytcafeffgaokiaaa

namespace Go.Proofs.Ytcafeffgaokiaaa
open Go.RowKit

end Go.Proofs.Ytcafeffgaokiaaa

namespace Go.Proofs.Ytcafeffgaokiaaa
open Go.RowKit

end Go.Proofs.Ytcafeffgaokiaaa

namespace Go.Proofs.Ytcafeffgaokiaaa
open Go.RowKit

end Go.Proofs.Ytcafeffgaokiaaa

namespace Go.Proofs.Ytcafeffgaokiaaa
open Go.RowKit

end Go.Proofs.Ytcafeffgaokiaaa

namespace Go.Proofs.Ytcafeffgaokiaaa
open Go.RowKit

end Go.Proofs.Ytcafeffgaokiaaa
