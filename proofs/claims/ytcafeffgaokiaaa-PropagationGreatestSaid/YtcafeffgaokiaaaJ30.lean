/- grooveref01: Add, Mul at any numbers. -/
import Derived.Test.YtcafeffgaokiaaaJ23
import Derived.Test.YtcafeffgaokiaaaJ29
namespace Go.Proofs.Ytcafeffgaokiaaa
open Go.RowKit Go.Shelf
end Go.Proofs.Ytcafeffgaokiaaa
