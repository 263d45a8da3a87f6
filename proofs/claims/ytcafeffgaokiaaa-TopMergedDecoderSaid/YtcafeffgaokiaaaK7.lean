/- The walk of grooveref26.Check: it returns what window.Check returns. -/
import Derived.Test.YtcafeffgaokiaaaK2
namespace Go.Proofs.Ytcafeffgaokiaaa
open Go.RowKit

end Go.Proofs.Ytcafeffgaokiaaa
