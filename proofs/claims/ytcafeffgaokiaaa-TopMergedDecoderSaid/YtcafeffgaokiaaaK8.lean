/- The walk of grooveref26.Decode: it returns what window.Decode returns. -/
import Derived.Test.YtcafeffgaokiaaaK6
import Derived.Test.YtcafeffgaokiaaaK7
namespace Go.Proofs.Ytcafeffgaokiaaa
open Go.RowKit

end Go.Proofs.Ytcafeffgaokiaaa
