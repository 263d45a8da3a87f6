/- grooveref01.divMag: the walk. -/
import Derived.Test.YtcafeffgaokiaaaJ18
import Derived.Test.YtcafeffgaokiaaaJ21
namespace Go.Proofs.Ytcafeffgaokiaaa
open Go.RowKit Go.Shelf
end Go.Proofs.Ytcafeffgaokiaaa
