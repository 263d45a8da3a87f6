/- grooveref25.Encode at a valid encoder. -/
import Derived.Test.YtcafeffgaokiaaaK3
import Derived.Test.YtcafeffgaokiaaaK11
import Derived.Test.YtcafeffgaokiaaaK5
namespace Go.Proofs.Ytcafeffgaokiaaa
open Go.RowKit
end Go.Proofs.Ytcafeffgaokiaaa
