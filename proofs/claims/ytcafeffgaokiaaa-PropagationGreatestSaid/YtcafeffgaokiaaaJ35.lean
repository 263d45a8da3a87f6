/- grooveref02.lowest at any size. -/
import Derived.Test.YtcafeffgaokiaaaJ32
import Derived.Test.YtcafeffgaokiaaaJ33
import Derived.Test.YtcafeffgaokiaaaJ34
namespace Go.Proofs.Ytcafeffgaokiaaa
open Go.RowKit Go.Shelf
end Go.Proofs.Ytcafeffgaokiaaa
