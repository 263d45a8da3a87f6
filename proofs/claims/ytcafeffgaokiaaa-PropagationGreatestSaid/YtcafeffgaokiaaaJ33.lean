/- grooveref01.Compare at canonical numbers. grooveref01.Compare at any numbers. -/
import Derived.Test.YtcafeffgaokiaaaJ21
import Derived.Test.YtcafeffgaokiaaaJ31
import Derived.Test.YtcafeffgaokiaaaJ15
import Derived.Test.YtcafeffgaokiaaaJ29
namespace Go.Proofs.Ytcafeffgaokiaaa
open Go.RowKit
end Go.Proofs.Ytcafeffgaokiaaa
namespace Go.Proofs.Ytcafeffgaokiaaa
open Go.RowKit Go.Shelf
end Go.Proofs.Ytcafeffgaokiaaa
