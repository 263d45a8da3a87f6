/- A range over an iterator as in Range0, where the assignment of the round's variables makes memory. -/
import Derived.Test.YtcafeffgaokiaaaZ14
namespace Go.Proofs.Ytcafeffgaokiaaa
open Go.RowKit
end Go.Proofs.Ytcafeffgaokiaaa
