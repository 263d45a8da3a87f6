/- grooveref01: value, Add, Mul at canonical numbers. -/
import Derived.Test.YtcafeffgaokiaaaJ18
import Derived.Test.YtcafeffgaokiaaaJ17
import Derived.Test.YtcafeffgaokiaaaJ20
namespace Go.Proofs.Ytcafeffgaokiaaa
open Go.RowKit Go.Shelf

end Go.Proofs.Ytcafeffgaokiaaa
