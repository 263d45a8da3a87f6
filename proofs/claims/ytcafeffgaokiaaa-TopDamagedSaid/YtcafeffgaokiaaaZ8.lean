/- The walk of grooveref26.Decode: it returns what window.Decode returns. -/
import Derived.Test.YtcafeffgaokiaaaZ6
import Derived.Test.YtcafeffgaokiaaaZ7
namespace Go.Proofs.Ytcafeffgaokiaaa
open Go.RowKit

end Go.Proofs.Ytcafeffgaokiaaa
