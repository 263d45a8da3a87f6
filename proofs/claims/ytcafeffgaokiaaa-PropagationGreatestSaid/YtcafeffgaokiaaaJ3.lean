/- The walk of grooveref26.Check: it returns what window.Check returns. The walk of grooveref26.Decode: it returns what window.Decode returns. -/
import Derived.Test.YtcafeffgaokiaaaJ1
import Derived.Test.YtcafeffgaokiaaaJ2
namespace Go.Proofs.Ytcafeffgaokiaaa
open Go.RowKit

end Go.Proofs.Ytcafeffgaokiaaa
namespace Go.Proofs.Ytcafeffgaokiaaa
open Go.RowKit

end Go.Proofs.Ytcafeffgaokiaaa
