/- grooveref01.Div of a multiple of the divisor, at any size: the walk. -/
import Derived.Test.YtcafeffgaokiaaaJ22
import Derived.Test.YtcafeffgaokiaaaJ30
import Derived.Test.YtcafeffgaokiaaaJ31
namespace Go.Proofs.Ytcafeffgaokiaaa
open Go.RowKit Go.Shelf
end Go.Proofs.Ytcafeffgaokiaaa
