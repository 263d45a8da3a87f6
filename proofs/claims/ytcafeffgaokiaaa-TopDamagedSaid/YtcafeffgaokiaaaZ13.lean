/- propagation.written: what it yields. A region that draws its order, inside a round: by the plain walk's laws. -/
import Derived.Test.YtcafeffgaokiaaaZ12
import Derived.Test.YtcafeffgaokiaaaZ11
import Derived.OrdersIn
import Derived.OrdersHeld
import Derived.TacticsIn
namespace Go.Proofs.Ytcafeffgaokiaaa
open Go.RowKit
attribute [local go_sem] Oper.semAt_some wideF
end Go.Proofs.Ytcafeffgaokiaaa
namespace Go.Proofs.Ytcafeffgaokiaaa
open Go.RowKit

end Go.Proofs.Ytcafeffgaokiaaa
