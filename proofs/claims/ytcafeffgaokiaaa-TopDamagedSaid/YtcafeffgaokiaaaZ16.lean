/- Why there are no written words of n blocks: propagation.check, grooveref28.count, fits, Many. -/
import Derived.Test.YtcafeffgaokiaaaZ15
import Derived.Test.YtcafeffgaokiaaaZ2
import Derived.Test.YtcafeffgaokiaaaZ7
namespace Go.Proofs.Ytcafeffgaokiaaa
open Go.RowKit
end Go.Proofs.Ytcafeffgaokiaaa
